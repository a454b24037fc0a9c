/- The small machine, walked with values that are not written out: functions' contracts; rows, and terms in rows. No statement of the program stands here. -/
import Derived.Test.YtojkinikdcelbaaGreatDoorNMirAY
set_option linter.unusedSimpArgs false
set_option linter.unusedVariables false
set_option linter.defProp false
namespace Go.Mir
open Go

/-- a run from here ends in something of which Q holds -/
def W (E : Env) (Q : Rz → Prop) (K : Go_ → Out) : Prop := ∃ fuel r, K (exec E fuel) = .ok r ∧ Q r

section
variable {E : Env} {Q : Rz → Prop} {i : Fi} {regs : T V} {t : List It} {cs : List Fr} {h : T O} {n : Nat}

theorem W_go {todo : List It} : W E Q (fun go => go i regs todo cs h n) ↔ W E Q (fun go => step E i regs todo cs h n go) := by
  constructor
  · rintro ⟨fuel, r, e, q⟩
    cases fuel with
    | zero => cases e
    | succ fuel => exact ⟨fuel, r, e, q⟩
  · rintro ⟨fuel, r, e, q⟩
    exact ⟨fuel + 1, r, e, q⟩

theorem W_ok {r : Rz} : W E Q (fun _ => .ok r) ↔ Q r := ⟨fun ⟨_, _, e, q⟩ => by cases e; exact q, fun q => ⟨0, r, rfl, q⟩⟩

theorem W_ite {c : Prop} [Decidable c] {A B : Go_ → Out} : W E Q (fun go => if c then A go else B go) ↔ (c → W E Q A) ∧ (¬ c → W E Q B) := by
  by_cases hc : c <;> simp [hc]

theorem W_bool {b : Bool} {A B : Go_ → Out} : W E Q (fun go => Bool.rec (A go) (B go) b) ↔ (b = true → W E Q B) ∧ (b = false → W E Q A) := by
  cases b <;> simp

/- code -/
theorem W_seq {a b : Code} : W E Q (fun go => go i regs (.code (.seq a b) :: t) cs h n) ↔ W E Q (fun go => go i regs (.code a :: .code b :: t) cs h n) := W_go
theorem W_skip : W E Q (fun go => go i regs (.code .skip :: t) cs h n) ↔ W E Q (fun go => go i regs t cs h n) := W_go
theorem W_label {l : Nat} : W E Q (fun go => go i regs (.code (.label l) :: t) cs h n) ↔ W E Q (fun go => go i regs t cs h n) := W_go
theorem W_cond {c : Operand} {a b : Code} : W E Q (fun go => go i regs (.code (.cond c a b) :: t) cs h n) ↔
    W E Q (fun go => ev regs c (condK (go i regs (.code a :: t) cs h n) (go i regs (.code b :: t) cs h n))) := W_go
theorem W_block {id : Nat} {b : Code} : W E Q (fun go => go i regs (.code (.block id b) :: t) cs h n) ↔ W E Q (fun go => go i regs (.code b :: .inBlock id :: t) cs h n) := W_go
theorem W_scope {b : Code} : W E Q (fun go => go i regs (.code (.scope b) :: t) cs h n) ↔ W E Q (fun go => go i regs (.code b :: .inScope b :: t) cs h n) := W_go
theorem W_inBlock {id : Nat} : W E Q (fun go => go i regs (.inBlock id :: t) cs h n) ↔ W E Q (fun go => go i regs t cs h n) := W_go
theorem W_inScope {c : Code} : W E Q (fun go => go i regs (.inScope c :: t) cs h n) ↔ W E Q (fun go => go i regs t cs h n) := W_go
theorem W_exit {id : Nat} : W E Q (fun go => go i regs (.code (.exit id) :: t) cs h n) ↔
    W E Q (fun go => exitK id t (leaveK (some (.exit id)) i regs cs h n go) fun t => go i regs t cs h n) := W_go
theorem W_loop0 {b : Code} : W E Q (fun go => go i regs (.code (.loop b) :: t) cs h n) ↔ W E Q (fun go => go i regs (.code b :: .inLoop b :: t) cs h n) := W_go
theorem W_inLoop {b : Code} : W E Q (fun go => go i regs (.inLoop b :: t) cs h n) ↔ W E Q (fun go => go i regs (.code b :: .inLoop b :: t) cs h n) := W_go
theorem W_reg0 {id : Nat} {ops : Array Oper} : W E Q (fun go => go i regs (.code (.region id ops false) :: t) cs h n) ↔ W E Q (fun go => go i regs (.reg ops.toList ops.toList :: t) cs h n) := W_go
theorem W_reg1 {id : Nat} {ops : Array Oper} : W E Q (fun go => go i regs (.code (.region id ops true) :: t) cs h n) ↔
    W E Q (fun go => om (E.scripts.get i.fn) fun r => om (r.get id) fun sc => need (scOk E.tys ops.toList sc) (go i regs (.dreg ops.toList sc :: t) cs h n)) := W_go
theorem W_ret {f sz : Nat} {d : List Nat} : W E Q (fun go => go ⟨f, sz, d, none⟩ regs (.code .ret :: t) cs h n) ↔ W E Q (fun go => go ⟨f, sz, d, none⟩ regs [.fin] cs h n) := W_go
theorem W_end {f sz : Nat} {d : List Nat} : W E Q (fun go => go ⟨f, sz, d, none⟩ regs [] cs h n) ↔ W E Q (fun go => go ⟨f, sz, d, none⟩ regs [.fin] cs h n) := W_go
theorem W_fin {f sz : Nat} {rd : Option Nat} : W E Q (fun go => go ⟨f, sz, [], rd⟩ regs [.fin] cs h n) ↔
    W E Q (fun go => om (E.fns.get f) fun fn => resultsK fn h E.tys regs fun v => popK v cs h n go) := W_go
theorem W_regNil {all : List Oper} : W E Q (fun go => go i regs (.reg all [] :: t) cs h n) ↔ W E Q (fun go => go i regs t cs h n) := W_go
theorem W_regOp {all rem : List Oper} {dst : Option Nat} {op : Op} {ty : Nat} {pos : String} {after : Array Edge} :
    W E Q (fun go => go i regs (.reg all (⟨dst, op, ty, pos, after, none⟩ :: rem) :: t) cs h n) ↔
    W E Q (fun go => opK E i regs t cs h n go all ⟨dst, op, ty, pos, after, none⟩ rem op dst) := W_go
theorem W_regG {all rem : List Oper} {dst : Option Nat} {op : Op} {ty : Nat} {pos : String} {after : Array Edge} {g : Nat × Bool} :
    W E Q (fun go => go i regs (.reg all (⟨dst, op, ty, pos, after, some g⟩ :: rem) :: t) cs h n) ↔
    W E Q (fun go => wantK all regs (some g) fun b => Bool.rec
      (setD regs dst i.sz undefV fun regs => go i regs (.reg all rem :: t) cs h n)
      (opK E i regs t cs h n go all ⟨dst, op, ty, pos, after, some g⟩ rem op dst) b) := W_go
/-- behind the worked-out part of a drawn region -/
noncomputable def dK (E : Env) (i : Fi) (t : List It) (cs : List Fr) (all : List Oper) (go : Go_) (sc : List Sc) (regs : T V) (h : T O) (n : Nat) : Out :=
  match sc with
  | [] => go i regs t cs h n
  | s :: sc => (match s with | .ch j => stChain E i t cs go all regs h n j sc | _ => bad 172)
theorem dK_nil {all : List Oper} {go : Go_} : dK E i t cs all go [] regs h n = go i regs t cs h n := rfl
theorem dK_ch {all : List Oper} {go : Go_} {j : Nat} {sc : List Sc} : dK E i t cs all go (.ch j :: sc) regs h n = stChain E i t cs go all regs h n j sc := rfl
theorem W_dreg {all : List Oper} {sc : List Sc} : W E Q (fun go => go i regs (.dreg all sc :: t) cs h n) ↔
    W E Q (fun go => gapK E.tys all i.sz sc regs h n (dK E i t cs all go)) := W_go

/-- a loop, by a measure -/
theorem W_loop {b : Code} (I : Nat → T V → T O → Nat → Prop) (m : Nat) (h0 : I m regs h n)
    (hs : ∀ m regs h n, I m regs h n → (∀ m' regs' h' n', m' < m → I m' regs' h' n' → W E Q (fun go => go i regs' (.inLoop b :: t) cs h' n')) → W E Q (fun go => go i regs (.code b :: .inLoop b :: t) cs h n)) :
    W E Q (fun go => go i regs (.code (.loop b) :: t) cs h n) := by
  rw [W_loop0]
  induction m using Nat.strongRecOn generalizing regs h n with
  | _ m ih => exact hs m regs h n h0 fun m' regs' h' n' hlt hI => W_inLoop.2 (ih m' hlt hI)

end

theorem opK_eq {E : Env} {i : Fi} {regs : T V} {t : List It} {cs : List Fr} {h : T O} {n : Nat} {go : Go_} {all rem : List Oper} {o : Oper} {op : Op} {dst : Option Nat} :
    opK E i regs t cs h n go all o rem op dst = pureK E.tys h regs op (fun v => setD regs dst i.sz v fun regs => go i regs (.reg all rem :: t) cs h n)
    (allocK E.tys regs op (fun ob vf => newO h n ob fun h n' => setD regs dst i.sz (vf n) fun regs => go i regs (.reg all rem :: t) cs h n')
      (chainK E op ⟨i, regs, .reg all (o :: rem) :: t⟩ regs cs h n go fun v h n => setD regs dst i.sz v fun regs => go i regs (.reg all rem :: t) cs h n)) := rfl

/- operations -/
section
variable {E : Env} {tys : T TI} {h : T O} {regs : T V} {k : V → Out} {kn : Out} {ka : O → (Nat → V) → Out} {fr : Fr} {cs : List Fr} {n : Nat} {go : Go_} {fin : Kv}
theorem pureK_move {x : Operand} : pureK tys h regs (.move x) k kn = ev regs x k := rfl
theorem pureK_assign {x : Operand} : pureK tys h regs (.assign x) k kn = ev regs x k := rfl
theorem pureK_pick {c a b : Operand} : pureK tys h regs (.pick c a b) k kn = ev regs c (pickK regs a b k) := rfl
theorem pureK_nilCheck {x : Operand} : pureK tys h regs (.nilCheck x) k kn = ev regs x (nilCheckK k) := rfl
theorem pureK_binOp {op : BinOp} {ty p : Nat} {x y : Operand} : pureK tys h regs (.binOp op ty x y p) k kn = ev regs x fun x => ev regs y fun y => binK tys op ty x y k := rfl
theorem pureK_unOp {op : UnOp} {ty : Nat} {x : Operand} : pureK tys h regs (.unOp op ty x) k kn = ev regs x (unK op k) := rfl
theorem pureK_convert {s d : Nat} {x : Operand} : pureK tys h regs (.convert s d x) k kn = Bool.rec (ev regs x fun x => convK tys h s d x k) kn (toBytes tys d) := rfl
theorem pureK_extract {j : Nat} {x : Operand} : pureK tys h regs (.extract x j) k kn = ev regs x (extractK j k) := rfl
theorem pureK_fieldAddr {ty f : Nat} {x : Operand} : pureK tys h regs (.fieldAddr ty x f) k kn = ev regs x (fieldAddrK tys ty f k) := rfl
theorem pureK_field {ty f : Nat} {x : Operand} : pureK tys h regs (.field ty x f) k kn = ev regs x (fieldK tys ty f k) := rfl
theorem pureK_indexAddr {ty : Nat} {x y : Operand} : pureK tys h regs (.indexAddr ty x y) k kn = ev regs x fun x => ev regs y fun i => indexAddrK tys ty x i k := rfl
theorem pureK_index {ty : Nat} {x y : Operand} : pureK tys h regs (.index ty x y) k kn = ev regs x fun x => ev regs y fun i => indexK tys ty x i k := rfl
theorem pureK_slice {ty : Nat} {x : Operand} {lo hi mx : Option Operand} : pureK tys h regs (.slice ty x lo hi mx) k kn = need (or (Option.isNone mx) (Option.isSome hi)) (ev regs x fun x => evO regs lo fun lo => evO regs hi fun hi => evO regs mx fun mx => sliceK tys ty x lo hi mx k) := rfl
theorem pureK_load {ty : Nat} {x : Operand} : pureK tys h regs (.load ty x) k kn = ev regs x fun a => loadK tys h ty a k := rfl
theorem pureK_lookup {ty : Nat} {m x : Operand} {b : Bool} : pureK tys h regs (.lookup ty m x b) k kn = ev regs m fun m => ev regs x fun x => lookupK tys h ty m x b k := rfl
theorem pureK_makeFunc {f : Fn} {a b : Array Operand} : pureK tys h regs (.makeFunc f a b) k kn = makeFuncK regs f a b k := rfl
theorem pureK_makeInterface {ty : Nat} {x : Operand} : pureK tys h regs (.makeInterface ty x) k kn = ev regs x (ifaceK tys ty k) := rfl
theorem pureK_build {ty : Nat} {ps : Array (Nat × Operand)} : pureK tys h regs (.build ty ps) k kn = buildK tys regs ty ps.toList k := rfl
theorem pureK_len {ty : Nat} {x : Operand} : pureK tys h regs (.call ⟨.builtin .len, #[x], #[ty]⟩) k kn = ev regs x fun x => lenV tys h ty x k := rfl
theorem pureK_cap {ty : Nat} {x : Operand} : pureK tys h regs (.call ⟨.builtin .cap, #[x], #[ty]⟩) k kn = ev regs x fun x => capK tys ty x k := rfl
theorem pureK_min {x y : Operand} {ts : Array Nat} : pureK tys h regs (.call ⟨.builtin .min, #[x, y], ts⟩) k kn = ev regs x fun x => ev regs y fun y => minK x y k := rfl
theorem pureK_max {x y : Operand} {ts : Array Nat} : pureK tys h regs (.call ⟨.builtin .max, #[x, y], ts⟩) k kn = ev regs x fun x => ev regs y fun y => maxK x y k := rfl
theorem pureK_alloc {ty : Nat} : pureK tys h regs (.alloc ty) k kn = kn := rfl
theorem pureK_box {ty : Nat} {x : Operand} : pureK tys h regs (.box ty x) k kn = kn := rfl
theorem pureK_buildSlice {ty len : Nat} {ps : Array (Nat × Operand)} : pureK tys h regs (.buildSlice ty len ps) k kn = kn := rfl
theorem pureK_makeMap {ty : Nat} {r : Option Operand} : pureK tys h regs (.makeMap ty r) k kn = kn := rfl
theorem pureK_makeSlice {ty : Nat} {x y : Operand} : pureK tys h regs (.makeSlice ty x y) k kn = kn := rfl
theorem pureK_store {ty : Nat} {x y : Operand} : pureK tys h regs (.store ty x y) k kn = kn := rfl
theorem pureK_mapUpdate {ty : Nat} {x y z : Operand} : pureK tys h regs (.mapUpdate ty x y z) k kn = kn := rfl
theorem pureK_insert {ty : Nat} {x y z : Operand} : pureK tys h regs (.insert ty x y z) k kn = kn := rfl
theorem pureK_mapEntry {ty : Nat} {x y : Operand} : pureK tys h regs (.mapEntry ty x y) k kn = kn := rfl
theorem pureK_entryStore {ty : Nat} {x y z : Operand} : pureK tys h regs (.entryStore ty x y z) k kn = kn := rfl
theorem pureK_next {x : Operand} {b : Bool} : pureK tys h regs (.next x b) k kn = kn := rfl
theorem pureK_range {ty : Nat} {x : Operand} : pureK tys h regs (.range ty x) k kn = kn := rfl
theorem pureK_entry {x : Operand} : pureK tys h regs (.entry x) k kn = kn := rfl
theorem pureK_typeAssert {x : Operand} {a b : Nat} {c : Bool} : pureK tys h regs (.typeAssert x a b c) k kn = kn := rfl
theorem pureK_callv {f : Operand} {a : Array Operand} {ts : Array Nat} : pureK tys h regs (.call ⟨.value f, a, ts⟩) k kn = kn := rfl
theorem pureK_append {a : Array Operand} {ts : Array Nat} : pureK tys h regs (.call ⟨.builtin .append, a, ts⟩) k kn = kn := rfl
theorem pureK_clear {a : Array Operand} {ts : Array Nat} : pureK tys h regs (.call ⟨.builtin .clear, a, ts⟩) k kn = kn := rfl
theorem pureK_copy {a : Array Operand} {ts : Array Nat} : pureK tys h regs (.call ⟨.builtin .copy, a, ts⟩) k kn = kn := rfl
theorem allocK_alloc {ty : Nat} : allocK tys regs (.alloc ty) ka kn = om (tys.get ty) fun ti => blockK ti.zero ti.size fun o => ka o vPtr := rfl
theorem allocK_box {ty : Nat} {x : Operand} : allocK tys regs (.box ty x) ka kn = ev regs x fun v => fNat (List.length (cellsOf v)) fun n => blockK (cellsOf v) n fun o => ka o vPtr := rfl
theorem allocK_buildSlice {ty len : Nat} {ps : Array (Nat × Operand)} : allocK tys regs (.buildSlice ty len ps) ka kn = sliceTy tys ty fun te => buildSliceK regs te len ps.toList ka := rfl
theorem allocK_makeMap {ty : Nat} {r : Option Operand} : allocK tys regs (.makeMap ty r) ka kn = (match r with | none => ka (.map [] 0) V.map | some x => mapTy tys ty fun _ _ => ev regs x fun x => ixOf x fun _ => ka (.map [] 0) V.map) := rfl
theorem allocK_makeSlice {ty : Nat} {x y : Operand} : allocK tys regs (.makeSlice ty x y) ka kn = sliceTy tys ty fun te => ev regs x fun l => ev regs y fun c => makeSliceK te l c ka := rfl
theorem allocK_store {ty : Nat} {x y : Operand} : allocK tys regs (.store ty x y) ka kn = kn := rfl
theorem allocK_mapUpdate {ty : Nat} {x y z : Operand} : allocK tys regs (.mapUpdate ty x y z) ka kn = kn := rfl
theorem allocK_insert {ty : Nat} {x y z : Operand} : allocK tys regs (.insert ty x y z) ka kn = kn := rfl
theorem allocK_mapEntry {ty : Nat} {x y : Operand} : allocK tys regs (.mapEntry ty x y) ka kn = kn := rfl
theorem allocK_entryStore {ty : Nat} {x y z : Operand} : allocK tys regs (.entryStore ty x y z) ka kn = kn := rfl
theorem allocK_next {x : Operand} {b : Bool} : allocK tys regs (.next x b) ka kn = kn := rfl
theorem allocK_range {ty : Nat} {x : Operand} : allocK tys regs (.range ty x) ka kn = kn := rfl
theorem allocK_entry {x : Operand} : allocK tys regs (.entry x) ka kn = kn := rfl
theorem allocK_typeAssert {x : Operand} {a b : Nat} {c : Bool} : allocK tys regs (.typeAssert x a b c) ka kn = kn := rfl
theorem allocK_callv {f : Operand} {a : Array Operand} {ts : Array Nat} : allocK tys regs (.call ⟨.value f, a, ts⟩) ka kn = kn := rfl
theorem allocK_append {a : Array Operand} {ts : Array Nat} : allocK tys regs (.call ⟨.builtin .append, a, ts⟩) ka kn = kn := rfl
theorem allocK_clear {a : Array Operand} {ts : Array Nat} : allocK tys regs (.call ⟨.builtin .clear, a, ts⟩) ka kn = kn := rfl
theorem allocK_copy {a : Array Operand} {ts : Array Nat} : allocK tys regs (.call ⟨.builtin .copy, a, ts⟩) ka kn = kn := rfl
theorem allocK_convert {s d : Nat} {x : Operand} : allocK tys regs (.convert s d x) ka kn = Bool.rec kn (om (tys.get s) fun _ => ev regs x fun x => bytesOfK tys d x ka) (toBytes tys d) := rfl
theorem chainK_store {ty : Nat} {x y : Operand} : chainK E (.store ty x y) fr regs cs h n go fin = ev regs x fun a => ev regs y fun x => storeK E.tys h ty a x fun h => fin undefV h n := rfl
theorem chainK_mapUpdate {ty : Nat} {x y z : Operand} : chainK E (.mapUpdate ty x y z) fr regs cs h n go fin = ev regs x fun m => ev regs y fun x => ev regs z fun v => mapPut E.tys h ty m x (fun _ => v) v fun h _ _ => fin undefV h n := rfl
theorem chainK_insert {ty : Nat} {x y z : Operand} : chainK E (.insert ty x y z) fr regs cs h n go fin = ev regs x fun m => ev regs y fun x => ev regs z fun v => mapPut E.tys h ty m x (fun _ => v) v fun h _ _ => fin undefV h n := rfl
theorem chainK_mapEntry {ty : Nat} {x y : Operand} : chainK E (.mapEntry ty x y) fr regs cs h n go fin = ev regs x fun m => ev regs y fun x => mapTy E.tys ty fun _ te => zeroV te fun z => mapPut E.tys h ty m x (fun v => v) z fun h v b => fin (.tuple [v, .int .i64 (.ofNat b)]) h n := rfl
theorem chainK_entryStore {ty : Nat} {x y z : Operand} : chainK E (.entryStore ty x y z) fr regs cs h n go fin = ev regs x fun m => ev regs y fun b => ev regs z fun x => entryPut h m b x fun h => fin undefV h n := rfl
theorem chainK_next {x : Operand} {b : Bool} : chainK E (.next x b) fr regs cs h n go fin = ev regs x fun it => need (not b) (nextK E.comb h n it fin) := rfl
theorem chainK_range {ty : Nat} {x : Operand} : chainK E (.range ty x) fr regs cs h n go fin = ev regs x fun x => rangeK E.tys h n ty x fin := rfl
theorem chainK_entry {x : Operand} : chainK E (.entry x) fr regs cs h n go fin = ev regs x fun it => entryK h it fun v => fin v h n := rfl
theorem chainK_typeAssert {x : Operand} {a b : Nat} {c : Bool} : chainK E (.typeAssert x a b c) fr regs cs h n go fin = ev regs x fun x => assertK E.tys b c x fun v => fin v h n := rfl
theorem chainK_callv {f : Operand} {a : Array Operand} {ts : Array Nat} : chainK E (.call ⟨.value f, a, ts⟩) fr regs cs h n go fin = ev regs f fun f => evL regs a.toList fun args => callK E f args fr cs h n go fin := rfl
theorem chainK_append {t1 t2 : Nat} {x y : Operand} : chainK E (.call ⟨.builtin .append, #[x, y], #[t1, t2]⟩) fr regs cs h n go fin = ev regs x fun s => ev regs y fun x => need (srcTy E.tys t2 x) (appendK E.tys h n t1 s x fin) := rfl
theorem chainK_clear {t1 : Nat} {x : Operand} : chainK E (.call ⟨.builtin .clear, #[x], #[t1]⟩) fr regs cs h n go fin = ev regs x fun x => clearK E.tys h t1 x fun h => fin undefV h n := rfl
theorem chainK_copy {t1 t2 : Nat} {x y : Operand} : chainK E (.call ⟨.builtin .copy, #[x, y], #[t1, t2]⟩) fr regs cs h n go fin = ev regs x fun x => ev regs y fun y => copyK E.tys h t1 x y fun v h => fin v h n := rfl
end

/- drawn regions -/
section
variable {E : Env} {tys : T TI} {all : List Oper} {sz : Nat} {sc : List Sc} {regs : T V} {h : T O} {n j : Nat} {k : List Sc → T V → T O → Nat → Out}
theorem gapK_nil : gapK tys all sz [] regs h n k = k [] regs h n := rfl
theorem gapK_ch : gapK tys all sz (.ch j :: sc) regs h n k = k (.ch j :: sc) regs h n := rfl
theorem gapK_ev : gapK tys all sz (.ev j :: sc) regs h n k = om (nth all j) fun o => wantK all regs o.guard fun b => Bool.rec (setD regs o.dst sz undefV fun regs => gapK tys all sz sc regs h n k) (gapEv tys regs sz h n (fun regs h n => gapK tys all sz sc regs h n k) o) b := rfl
theorem gapK_re : gapK tys all sz (.re j :: sc) regs h n k = om (nth all j) fun o => wantK all regs o.guard fun b => Bool.rec (gapK tys all sz sc regs h n k) (gapRe tys regs h (gapK tys all sz sc regs h n k) o) b := rfl
theorem W_gapNil {Q : Rz → Prop} {kk : Go_ → List Sc → T V → T O → Nat → Out} : W E Q (fun go => gapK tys all sz [] regs h n (kk go)) ↔ W E Q (fun go => kk go [] regs h n) := Iff.rfl
theorem W_gapCh {Q : Rz → Prop} {kk : Go_ → List Sc → T V → T O → Nat → Out} : W E Q (fun go => gapK tys all sz (.ch j :: sc) regs h n (kk go)) ↔ W E Q (fun go => kk go (.ch j :: sc) regs h n) := Iff.rfl
noncomputable def gE (oo : Option Oper) (tys : T TI) (all : List Oper) (sz : Nat) (sc : List Sc) (regs : T V) (h : T O) (n : Nat) (k : List Sc → T V → T O → Nat → Out) : Out :=
  om oo fun o => wantK all regs o.guard fun b => Bool.rec (setD regs o.dst sz undefV fun regs => gapK tys all sz sc regs h n k) (gapEv tys regs sz h n (fun regs h n => gapK tys all sz sc regs h n k) o) b
noncomputable def gR (oo : Option Oper) (tys : T TI) (all : List Oper) (regs : T V) (h : T O) (ih : Out) : Out :=
  om oo fun o => wantK all regs o.guard fun b => Bool.rec ih (gapRe tys regs h ih o) b
theorem W_gapEv {Q : Rz → Prop} {kk : Go_ → List Sc → T V → T O → Nat → Out} : W E Q (fun go => gapK tys all sz (.ev j :: sc) regs h n (kk go)) ↔
    W E Q (fun go => gE (nth all j) tys all sz sc regs h n (kk go)) := Iff.rfl
theorem W_gapRe {Q : Rz → Prop} {kk : Go_ → List Sc → T V → T O → Nat → Out} : W E Q (fun go => gapK tys all sz (.re j :: sc) regs h n (kk go)) ↔
    W E Q (fun go => gR (nth all j) tys all regs h (gapK tys all sz sc regs h n (kk go))) := Iff.rfl
theorem gE_0 {dst : Option Nat} {op : Op} {ty : Nat} {pos : String} {after : Array Edge} : gE (some ⟨dst, op, ty, pos, after, none⟩) tys all sz sc regs h n k =
    pureK tys h regs op (fun v => setD regs dst sz v fun regs => gapK tys all sz sc regs h n k)
    (allocK tys regs op (fun ob vf => need (plainO ob) (newO h n ob fun h n' => setD regs dst sz (vf n) fun regs => gapK tys all sz sc regs h n' k)) (bad 170)) := rfl
theorem gE_1 {dst : Option Nat} {op : Op} {ty : Nat} {pos : String} {after : Array Edge} {g : Nat × Bool} : gE (some ⟨dst, op, ty, pos, after, some g⟩) tys all sz sc regs h n k =
    wantK all regs (some g) fun b => Bool.rec (setD regs dst sz undefV fun regs => gapK tys all sz sc regs h n k) (pureK tys h regs op (fun v => setD regs dst sz v fun regs => gapK tys all sz sc regs h n k)
    (allocK tys regs op (fun ob vf => need (plainO ob) (newO h n ob fun h n' => setD regs dst sz (vf n) fun regs => gapK tys all sz sc regs h n' k)) (bad 170))) b := rfl
theorem gR_0 {d : Nat} {op : Op} {ty : Nat} {pos : String} {after : Array Edge} {ih : Out} : gR (some ⟨some d, op, ty, pos, after, none⟩) tys all regs h ih =
    om (regs.get d) fun v0 => pureK tys h regs op (fun v => need (sameV v0 v) ih) (bad 171) := rfl
theorem gR_1 {d : Nat} {op : Op} {ty : Nat} {pos : String} {after : Array Edge} {g : Nat × Bool} {ih : Out} : gR (some ⟨some d, op, ty, pos, after, some g⟩) tys all regs h ih =
    wantK all regs (some g) fun b => Bool.rec ih (om (regs.get d) fun v0 => pureK tys h regs op (fun v => need (sameV v0 v) ih) (bad 171)) b := rfl
noncomputable def cE (oo : Option Oper) (E : Env) (i : Fi) (t : List It) (cs : List Fr) (go : Go_) (all : List Oper) (regs : T V) (h : T O) (n j : Nat) (sc : List Sc) : Out :=
  om oo fun o => wantK all regs o.guard fun b => Bool.rec
    (setD regs o.dst i.sz undefV fun regs => go i regs (.dreg all sc :: t) cs h n)
    (pureK E.tys h regs o.op (fun v => setD regs o.dst i.sz v fun regs => go i regs (.dreg all sc :: t) cs h n)
      (allocK E.tys regs o.op (fun ob vf => newO h n ob fun h n' => setD regs o.dst i.sz (vf n) fun regs => go i regs (.dreg all sc :: t) cs h n')
        (chainK E o.op ⟨i, regs, .dreg all (.ch j :: sc) :: t⟩ regs cs h n go fun v h n => setD regs o.dst i.sz v fun regs => go i regs (.dreg all sc :: t) cs h n))) b
theorem stChain_eq {i : Fi} {t : List It} {cs : List Fr} {go : Go_} : stChain E i t cs go all regs h n j sc = cE (nth all j) E i t cs go all regs h n j sc := rfl
theorem cE_0 {i : Fi} {t : List It} {cs : List Fr} {go : Go_} {dst : Option Nat} {op : Op} {ty : Nat} {pos : String} {after : Array Edge} : cE (some ⟨dst, op, ty, pos, after, none⟩) E i t cs go all regs h n j sc =
    pureK E.tys h regs op (fun v => setD regs dst i.sz v fun regs => go i regs (.dreg all sc :: t) cs h n)
      (allocK E.tys regs op (fun ob vf => newO h n ob fun h n' => setD regs dst i.sz (vf n) fun regs => go i regs (.dreg all sc :: t) cs h n')
        (chainK E op ⟨i, regs, .dreg all (.ch j :: sc) :: t⟩ regs cs h n go fun v h n => setD regs dst i.sz v fun regs => go i regs (.dreg all sc :: t) cs h n)) := rfl
theorem cE_1 {i : Fi} {t : List It} {cs : List Fr} {go : Go_} {dst : Option Nat} {op : Op} {ty : Nat} {pos : String} {after : Array Edge} {g : Nat × Bool} : cE (some ⟨dst, op, ty, pos, after, some g⟩) E i t cs go all regs h n j sc =
    wantK all regs (some g) fun b => Bool.rec (setD regs dst i.sz undefV fun regs => go i regs (.dreg all sc :: t) cs h n)
    (pureK E.tys h regs op (fun v => setD regs dst i.sz v fun regs => go i regs (.dreg all sc :: t) cs h n)
      (allocK E.tys regs op (fun ob vf => newO h n ob fun h n' => setD regs dst i.sz (vf n) fun regs => go i regs (.dreg all sc :: t) cs h n')
        (chainK E op ⟨i, regs, .dreg all (.ch j :: sc) :: t⟩ regs cs h n go fun v h n => setD regs dst i.sz v fun regs => go i regs (.dreg all sc :: t) cs h n))) b := rfl
end

theorem mOps : type_of% (And.intro @pureK_move <| And.intro @pureK_assign <| And.intro @pureK_pick <| And.intro @pureK_nilCheck <| And.intro @pureK_binOp <| And.intro @pureK_unOp <| And.intro @pureK_convert <| And.intro @pureK_extract <| And.intro @pureK_fieldAddr <| And.intro @pureK_field <| And.intro @pureK_indexAddr <| And.intro @pureK_index <| And.intro @pureK_slice <| And.intro @pureK_load <| And.intro @pureK_lookup <| And.intro @pureK_makeFunc <| And.intro @pureK_makeInterface <| And.intro @pureK_build <| And.intro @pureK_len <| And.intro @pureK_cap <| And.intro @pureK_min <| And.intro @pureK_max <| And.intro @pureK_alloc <| And.intro @pureK_box <| And.intro @pureK_buildSlice <| And.intro @pureK_makeMap <| And.intro @pureK_makeSlice <| And.intro @pureK_store <| And.intro @pureK_mapUpdate <| And.intro @pureK_insert <| And.intro @pureK_mapEntry <| And.intro @pureK_entryStore <| And.intro @pureK_next <| And.intro @pureK_range <| And.intro @pureK_entry <| And.intro @pureK_typeAssert <| And.intro @pureK_callv <| And.intro @pureK_append <| And.intro @pureK_clear <| And.intro @pureK_copy <| And.intro @allocK_alloc <| And.intro @allocK_box <| And.intro @allocK_buildSlice <| And.intro @allocK_makeMap <| And.intro @allocK_makeSlice <| And.intro @allocK_store <| And.intro @allocK_mapUpdate <| And.intro @allocK_insert <| And.intro @allocK_mapEntry <| And.intro @allocK_entryStore <| And.intro @allocK_next <| And.intro @allocK_range <| And.intro @allocK_entry <| And.intro @allocK_typeAssert <| And.intro @allocK_callv <| And.intro @allocK_append <| And.intro @allocK_clear <| And.intro @allocK_copy <| And.intro @allocK_convert <| And.intro @chainK_store <| And.intro @chainK_mapUpdate <| And.intro @chainK_insert <| And.intro @chainK_mapEntry <| And.intro @chainK_entryStore <| And.intro @chainK_next <| And.intro @chainK_range <| And.intro @chainK_entry <| And.intro @chainK_typeAssert <| And.intro @chainK_callv <| And.intro @chainK_append <| And.intro @chainK_clear <| @chainK_copy) := And.intro @pureK_move <| And.intro @pureK_assign <| And.intro @pureK_pick <| And.intro @pureK_nilCheck <| And.intro @pureK_binOp <| And.intro @pureK_unOp <| And.intro @pureK_convert <| And.intro @pureK_extract <| And.intro @pureK_fieldAddr <| And.intro @pureK_field <| And.intro @pureK_indexAddr <| And.intro @pureK_index <| And.intro @pureK_slice <| And.intro @pureK_load <| And.intro @pureK_lookup <| And.intro @pureK_makeFunc <| And.intro @pureK_makeInterface <| And.intro @pureK_build <| And.intro @pureK_len <| And.intro @pureK_cap <| And.intro @pureK_min <| And.intro @pureK_max <| And.intro @pureK_alloc <| And.intro @pureK_box <| And.intro @pureK_buildSlice <| And.intro @pureK_makeMap <| And.intro @pureK_makeSlice <| And.intro @pureK_store <| And.intro @pureK_mapUpdate <| And.intro @pureK_insert <| And.intro @pureK_mapEntry <| And.intro @pureK_entryStore <| And.intro @pureK_next <| And.intro @pureK_range <| And.intro @pureK_entry <| And.intro @pureK_typeAssert <| And.intro @pureK_callv <| And.intro @pureK_append <| And.intro @pureK_clear <| And.intro @pureK_copy <| And.intro @allocK_alloc <| And.intro @allocK_box <| And.intro @allocK_buildSlice <| And.intro @allocK_makeMap <| And.intro @allocK_makeSlice <| And.intro @allocK_store <| And.intro @allocK_mapUpdate <| And.intro @allocK_insert <| And.intro @allocK_mapEntry <| And.intro @allocK_entryStore <| And.intro @allocK_next <| And.intro @allocK_range <| And.intro @allocK_entry <| And.intro @allocK_typeAssert <| And.intro @allocK_callv <| And.intro @allocK_append <| And.intro @allocK_clear <| And.intro @allocK_copy <| And.intro @allocK_convert <| And.intro @chainK_store <| And.intro @chainK_mapUpdate <| And.intro @chainK_insert <| And.intro @chainK_mapEntry <| And.intro @chainK_entryStore <| And.intro @chainK_next <| And.intro @chainK_range <| And.intro @chainK_entry <| And.intro @chainK_typeAssert <| And.intro @chainK_callv <| And.intro @chainK_append <| And.intro @chainK_clear <| @chainK_copy
theorem mCode : type_of% (And.intro @W_ok <| And.intro @W_seq <| And.intro @W_skip <| And.intro @W_label <| And.intro @W_cond <| And.intro @W_block <| And.intro @W_scope <| And.intro @W_inBlock <| And.intro @W_inScope <| And.intro @W_exit <| And.intro @W_reg0 <| And.intro @W_ret <| And.intro @W_end <| And.intro @W_fin <| And.intro @W_regNil <| And.intro @W_regOp <| And.intro @W_regG <| And.intro @W_dreg <| And.intro @dK_nil <| And.intro @dK_ch <| And.intro @opK_eq <| And.intro @W_gapNil <| And.intro @W_gapCh <| And.intro @W_gapEv <| And.intro @W_gapRe <| And.intro @gE_0 <| And.intro @gE_1 <| And.intro @gR_0 <| And.intro @gR_1 <| And.intro @stChain_eq <| And.intro @cE_0 <| @cE_1) := And.intro @W_ok <| And.intro @W_seq <| And.intro @W_skip <| And.intro @W_label <| And.intro @W_cond <| And.intro @W_block <| And.intro @W_scope <| And.intro @W_inBlock <| And.intro @W_inScope <| And.intro @W_exit <| And.intro @W_reg0 <| And.intro @W_ret <| And.intro @W_end <| And.intro @W_fin <| And.intro @W_regNil <| And.intro @W_regOp <| And.intro @W_regG <| And.intro @W_dreg <| And.intro @dK_nil <| And.intro @dK_ch <| And.intro @opK_eq <| And.intro @W_gapNil <| And.intro @W_gapCh <| And.intro @W_gapEv <| And.intro @W_gapRe <| And.intro @gE_0 <| And.intro @gE_1 <| And.intro @gR_0 <| And.intro @gR_1 <| And.intro @stChain_eq <| And.intro @cE_0 <| @cE_1

end Go.Mir
namespace Go.Mir
open Go

theorem pair_eta {α β : Type} (x : α × β) : (x.1, x.2) = x := rfl

/- conditions -/
section
variable {k : Out} {p q : Bool} {a b : Nat}
theorem need_true : need true k = k := rfl
theorem need_and : need (and p q) k = need p (need q k) := by cases p <;> rfl
theorem need_ble (h : a ≤ b) : need (Nat.ble a b) k = k := by rw [Nat.ble_eq_true_of_le h]; rfl
theorem need_beq (h : a = b) : need (Nat.beq a b) k = k := by rw [h, Nat.beq_refl]; rfl
theorem need_nbeq (h : a ≠ b) : need (not (Nat.beq a b)) k = k := by
  have : Nat.beq a b = false := by
    cases e : Nat.beq a b with
    | false => rfl
    | true => exact absurd (Nat.eq_of_beq_eq_true e) h
  rw [this]; rfl
theorem need_orl (h : p = true) : need (or p q) k = k := by rw [h]; rfl
theorem need_orr (h : q = true) : need (or p q) k = k := by rw [h]; cases p <;> rfl
theorem need_decide {c : Prop} [Decidable c] (h : c) : need (decide c) k = k := by rw [decide_eq_true h]; rfl
theorem need_sc {tys : T TI} {ops : List Oper} {sc : List Sc} (h : scOk tys ops sc = true) : need (scOk tys ops sc) k = k := by rw [h]; rfl
theorem isNone_none {α : Type} : Option.isNone (none : Option α) = true := rfl
theorem isSome_none {α : Type} : Option.isSome (none : Option α) = false := rfl
theorem isSome_some {α : Type} {x : α} : Option.isSome (some x) = true := rfl
theorem om_some {α : Type} {x : α} {f : α → Out} : om (some x) f = f x := rfl
theorem brec_beq {β : Type} {x y : β} : (Bool.rec (motive := fun _ => β) x y (Nat.beq a b)) = if a = b then y else x := by
  by_cases h : a = b
  · rw [if_pos h, h, Nat.beq_refl]
  · rw [if_neg h]
    cases e : Nat.beq a b with
    | false => rfl
    | true => exact absurd (Nat.eq_of_beq_eq_true e) h
theorem brec_ble {β : Type} {x y : β} : (Bool.rec (motive := fun _ => β) x y (Nat.ble a b)) = if a ≤ b then y else x := by
  by_cases h : a ≤ b
  · rw [if_pos h, Nat.ble_eq_true_of_le h]
  · rw [if_neg h]
    cases e : Nat.ble a b with
    | false => rfl
    | true => exact absurd (Nat.le_of_ble_eq_true e) h
theorem brec_dec {β : Type} {x y : β} {c : Prop} [Decidable c] : (Bool.rec (motive := fun _ => β) x y (decide c)) = if c then y else x := by
  by_cases h : c <;> simp [h]
theorem brec_not {β : Type} {x y : β} : (Bool.rec (motive := fun _ => β) x y (not p)) = Bool.rec (motive := fun _ => β) y x p := by cases p <;> rfl
theorem brec_self : (Bool.rec (motive := fun _ => Bool) false true p) = p := by cases p <;> rfl
theorem brec_neg : (Bool.rec (motive := fun _ => Bool) true false p) = not p := by cases p <;> rfl
theorem ite_ne {β : Type} {x y : β} (h : a ≠ b) : (if a = b then x else y) = y := if_neg h
theorem ite_eq {β : Type} {x y : β} (h : a = b) : (if a = b then x else y) = x := if_pos h
end

/- places of a frame, cells, blocks -/
section
variable {regs : T V} {h : T O} {n : Nat}
theorem setD_none {sz : Nat} {v : V} {k : T V → Out} : setD regs none sz v k = k regs := rfl
theorem setD_some {d sz : Nat} {v : V} {k : T V → Out} : setD regs (some d) sz v k = need (Nat.ble (d + 1) sz) (k (regs.put d (some v))) := by
  show need _ (T.setK _ _ _ _ _) = _
  rw [T.setK_eq]
theorem newO_eq {o : O} {k : T O → Nat → Out} : newO h n o k = k (h.put n (some o)) (n + 1) := by
  show T.setK _ _ _ _ _ = _
  rw [T.setK_eq, fNat_eq]

/-- cells laid from a place on -/
noncomputable def layT (t : T V) (i : Nat) : List V → T V
  | [] => t
  | v :: vs => layT (t.put i (some v)) (i + 1) vs
theorem layT_nil {t : T V} {i : Nat} : layT t i [] = t := rfl
theorem layT_cons {t : T V} {i : Nat} {v : V} {vs : List V} : layT t i (v :: vs) = layT (t.put i (some v)) (i + 1) vs := rfl
theorem putL_eq {k : T V → Out} : ∀ {vs : List V} {t : T V} {i : Nat}, putL t i vs k = k (layT t i vs)
  | [], _, _ => rfl
  | v :: vs, t, i => by
    show T.setK t i (some v) (bad 100) (fun t => fNat (Nat.succ i) fun i => putL t i vs k) = _
    rw [T.setK_eq, fNat_eq, putL_eq]; rfl
theorem layT_get : ∀ {vs : List V} {t : T V} {i j : Nat}, (layT t i vs).get j = if i ≤ j ∧ j < i + vs.length then vs[j - i]? else t.get j
  | [], t, i, j => by
    rw [if_neg (by simp only [List.length_nil]; omega)]; rfl
  | v :: vs, t, i, j => by
    show (layT (t.put i (some v)) (i + 1) vs).get j = _
    rw [layT_get, T.get_put]
    simp only [List.length_cons]
    by_cases h1 : i + 1 ≤ j ∧ j < i + 1 + vs.length
    · rw [if_pos h1, if_pos (by omega), show j - i = (j - (i + 1)) + 1 by omega]; simp
    · rw [if_neg h1]
      by_cases h2 : j = i
      · subst h2; rw [if_pos rfl, if_pos (by omega)]; simp
      · rw [if_neg h2, if_neg (by omega)]

/-- the places of a frame that is entered -/
noncomputable def argT (args : List V) (sz : Nat) : T V := layT (T.blank (Nat.succ (Nat.log2 sz))) 0 args
theorem regsOf_eq {args : List V} {sz : Nat} {k : T V → Out} : regsOf args sz k = need (Nat.ble args.length sz) (k (argT args sz)) := by
  show need _ (putL _ _ _ _) = _
  rw [putL_eq]; rfl
theorem argT_get {args : List V} {sz j : Nat} : (argT args sz).get j = args[j]? := by
  unfold argT
  rw [layT_get, T.get_blank]
  simp only [Nat.zero_le, true_and, Nat.zero_add, Nat.sub_zero]
  split
  · rfl
  · rw [List.getElem?_eq_none (by omega)]

/-- a block's cells -/
noncomputable def ofT (l : List V) : T V := layT (T.blank (Nat.succ (Nat.log2 l.length))) 0 l
theorem ofL_eq {l : List V} {k : T V → Out} : ofL l k = k (ofT l) := by
  have go : ∀ (l : List V) (i : Nat) (t : T V), (List.rec (motive := fun _ => Nat → T V → Out) (fun _ t => k t) (fun v _ ih i t => T.setK t i (some v) (bad 80) fun t => ih (Nat.succ i) t) l i t : Out) = k (layT t i l) := by
    intro l
    induction l with
    | nil => intro i t; rfl
    | cons v l ih => intro i t; show T.setK t i (some v) (bad 80) _ = _; rw [T.setK_eq, ih]; rfl
  exact go l 0 _
theorem ofT_get {l : List V} {j : Nat} : (ofT l).get j = l[j]? := by
  unfold ofT
  rw [layT_get, T.get_blank]
  simp only [Nat.zero_le, true_and, Nat.zero_add, Nat.sub_zero]
  split
  · rfl
  · rw [List.getElem?_eq_none (by omega)]
theorem blockK_eq {l : List V} {esz : Nat} {k : O → Out} : blockK l esz k = k (.cells (ofT l) l.length esz) := by
  show ofL l _ = _
  rw [ofL_eq, fNat_eq]

theorem oCells_cells {t : T V} {m e : Nat} {k : T V → Nat → Nat → Out} : oCells (.cells t m e) k = k t m e := rfl
theorem rCells_cells {t : T V} {m e : Nat} {k : T V → Nat → Nat → Out} : rCells (.cells t m e) k = k t m e := rfl
theorem rCells_ro {t : T V} {m e : Nat} {k : T V → Nat → Nat → Out} : rCells (.ro t m e) k = k t m e := rfl
theorem oMap_map {es : List (V × V × Nat)} {c : Nat} {k : List (V × V × Nat) → Nat → Out} : oMap (.map es c) k = k es c := rfl
theorem cellAt_eq {id off : Nat} {k : V → Out} : cellAt h id off k = om (h.get id) fun o => rCells o fun t m _ => need (Nat.ble (off + 1) m) (om (t.get off) k) := rfl
theorem cellsAt_eq {id off m : Nat} {k : List V → Out} : cellsAt h id off m k = om (h.get id) fun o => rCells o fun t m' _ => need (Nat.ble (off + m) m') (loadN t off m k) := rfl
theorem cellAt_put {j id off : Nat} {o : O} {k : V → Out} : cellAt (h.put j (some o)) id off k = if id = j then (rCells o fun t m _ => need (Nat.ble (off + 1) m) (om (t.get off) k)) else cellAt h id off k := by
  rw [cellAt_eq, T.get_put]
  by_cases e : id = j
  · rw [if_pos e, if_pos e, om_some]
  · rw [if_neg e, if_neg e, cellAt_eq]
theorem cellsAt_put {j id off m : Nat} {o : O} {k : List V → Out} : cellsAt (h.put j (some o)) id off m k = if id = j then (rCells o fun t m' _ => need (Nat.ble (off + m) m') (loadN t off m k)) else cellsAt h id off m k := by
  rw [cellsAt_eq, T.get_put]
  by_cases e : id = j
  · rw [if_pos e, if_pos e, om_some]
  · rw [if_neg e, if_neg e, cellsAt_eq]
theorem cellAt_drop {j id off : Nat} (e : id ≠ j) {k : V → Out} : cellAt (h.put j none) id off k = cellAt h id off k := by
  rw [cellAt_eq, T.get_put, if_neg e, cellAt_eq]
theorem cellsAt_drop {j id off m : Nat} (e : id ≠ j) {k : List V → Out} : cellsAt (h.put j none) id off m k = cellsAt h id off m k := by
  rw [cellsAt_eq, T.get_put, if_neg e, cellsAt_eq]
theorem loadN_0 {t : T V} {off : Nat} {k : List V → Out} : loadN t off 0 k = k [] := rfl
theorem loadN_1 {t : T V} {off : Nat} {k : List V → Out} : loadN t off 1 k = om (t.get (off + 0)) fun a => k [a] := rfl
theorem loadN_2 {t : T V} {off : Nat} {k : List V → Out} : loadN t off 2 k = om (t.get (off + 1)) fun b => om (t.get (off + 0)) fun a => k [a, b] := rfl
theorem loadN_3 {t : T V} {off : Nat} {k : List V → Out} : loadN t off 3 k = om (t.get (off + 2)) fun c => om (t.get (off + 1)) fun b => om (t.get (off + 0)) fun a => k [a, b, c] := rfl
theorem loadN_of {t : T V} {off : Nat} (l : List V) (hl : ∀ j, j < l.length → t.get (off + j) = l[j]?) {k : List V → Out} : loadN t off l.length k = k l := by
  have go : ∀ (m : Nat) (acc : List V), m ≤ l.length → acc = l.drop m →
      (Nat.rec (motive := fun _ => List V → Out) (fun acc => k acc) (fun m ih acc => om (t.get (Nat.add off m)) fun v => ih (v :: acc)) m acc : Out) = k l := by
    intro m
    induction m with
    | zero => intro acc _ e; subst e; rfl
    | succ m ih =>
      intro acc hm e
      have hg : t.get (off + m) = some l[m] := by rw [hl m (by omega), List.getElem?_eq_getElem (by omega)]
      show om (t.get (off + m)) _ = _
      rw [hg]
      exact ih _ (by omega) (by rw [e]; exact (List.drop_eq_getElem_cons (by omega)).symm)
  exact go l.length [] (Nat.le_refl _) (by simp)
theorem storeN_eq {id off : Nat} {vs : List V} {k : T O → Out} : storeN h id off vs k = om (h.get id) fun o => oCells o fun t m esz =>
    need (and (allOne vs) (Nat.ble (off + vs.length) m)) (k (h.put id (some (.cells (layT t off vs) m esz)))) := by
  unfold storeN
  congr 1; funext o; congr 1; funext t m esz
  rw [putL_eq, T.setK_eq]; rfl
theorem storeK_eq {tys : T TI} {t id off : Nat} {v : V} {k : T O → Out} : storeK tys h t (.ptr id off) v k = om (tys.get t) fun ti => need (Nat.beq (List.length (cellsOf v)) ti.size) (storeN h id off (cellsOf v) k) := rfl
theorem loadK_eq {tys : T TI} {t id off : Nat} {k : V → Out} : loadK tys h t (.ptr id off) k = om (tys.get t) fun ti => Bool.rec (cellAt h id off k) (cellsAt h id off ti.size fun l => k (.agg l)) (isAggK ti.kind) := rfl
end

/- operands -/
section
variable {regs : T V} {k : V → Out}
theorem ev_tmp {t : Nat} : ev regs (.tmp t) k = om (regs.get t) k := rfl
theorem ev_func {f : Nat} : ev regs (.func f) k = k (.func f [] []) := rfl
theorem ev_int {kk : IntKind} {z : Int} : ev regs (.const (.int kk z)) k = k (.int kk z) := fInt_eq z fun n => k (.int kk n)
theorem ev_bool {b : Bool} : ev regs (.const (.bool b)) k = k (.bool b) := rfl
theorem ev_str {b : ByteArray} : ev regs (.const (.string b)) k = k (.str (b.data.toList.map UInt8.toNat)) := by show bytesK _ _ = _; rw [bytesK_eq]
theorem ev_nilp : ev regs (.const (.pointer none)) k = k (.base (.pointer none)) := rfl
theorem ev_nils {a b : Nat} : ev regs (.const (.slice none a b)) k = k (.base (.slice none a b)) := rfl
theorem ev_nilm : ev regs (.const (.map none)) k = k (.base (.map none)) := rfl
theorem ev_nilf : ev regs (.const .nilFunc) k = k (.base .nilFunc) := rfl
theorem evL_nil {k : List V → Out} : evL regs [] k = k [] := rfl
theorem evL_cons {x : Operand} {xs : List Operand} {k : List V → Out} : evL regs (x :: xs) k = ev regs x fun v => evL regs xs fun vs => k (v :: vs) := rfl
theorem evO_none {k : Option V → Out} : evO regs none k = k none := rfl
theorem evO_some {x : Operand} {k : Option V → Out} : evO regs (some x) k = ev regs x fun v => k (some v) := rfl
theorem pickK_bool {a b : Operand} {c : Bool} : pickK regs a b k (.bool c) = Bool.rec (ev regs b k) (ev regs a k) c := rfl
theorem condK_bool {a b : Out} {c : Bool} : condK a b (.bool c) = Bool.rec b a c := rfl
theorem wantK_none {all : List Oper} {k : Bool → Out} : wantK all regs none k = k true := rfl
noncomputable def wE (oo : Option Oper) (regs : T V) (w : Bool) (k : Bool → Out) : Out := om oo fun o => om o.dst fun d => om (regs.get d) fun v => wantV w v k
theorem wantK_some {all : List Oper} {j : Nat} {w : Bool} {k : Bool → Out} : wantK all regs (some (j, w)) k = wE (nth all j) regs w k := rfl
theorem wE_some {d : Nat} {op : Op} {ty : Nat} {pos : String} {after : Array Edge} {g : Option (Nat × Bool)} {w : Bool} {k : Bool → Out} : wE (some ⟨some d, op, ty, pos, after, g⟩) regs w k = om (regs.get d) fun v => wantV w v k := rfl
theorem wantV_t {b : Bool} {k : Bool → Out} : wantV true (.bool b) k = k b := by show fB _ _ = _; rw [fB_eq]; cases b <;> rfl
theorem wantV_f {b : Bool} {k : Bool → Out} : wantV false (.bool b) k = k (not b) := by show fB _ _ = _; rw [fB_eq]; cases b <;> rfl
theorem wantV_undef {w : Bool} {k : Bool → Out} : wantV w (.tuple []) k = k false := rfl
theorem kB_eq' {b : Bool} : kB k b = k (.bool b) := fB_eq b _
theorem kN_eq' {m : Nat} : kN k m = k (.int .i64 (m : Int)) := fNat_eq m _
end

/- whole numbers -/
section
variable {tys : T TI} {t : Nat} {kk : IntKind} {a b : Int} {k : V → Out}
theorem sameKind_self : sameKind kk kk = true := by cases kk <;> rfl
theorem binK_int {op : BinOp} {ky : IntKind} : binK tys op t (.int kk a) (.int ky b) k = intBin op kk a ky b k := rfl
theorem intBin_lss : intBin .lss kk a kk b k = k (.bool (decide (a < b))) := by show need _ _ = _; rw [sameKind_self, kB_eq', ilt_eq]; rfl
theorem intBin_gtr : intBin .gtr kk a kk b k = k (.bool (decide (b < a))) := by show need _ _ = _; rw [sameKind_self, kB_eq', ilt_eq]; rfl
theorem intBin_leq : intBin .leq kk a kk b k = k (.bool (decide (a ≤ b))) := by
  show need _ _ = _; rw [sameKind_self, kB_eq', ilt_eq]
  have : not (decide (b < a)) = decide (a ≤ b) := by rw [Bool.eq_iff_iff]; simp
  rw [this]; rfl
theorem intBin_geq : intBin .geq kk a kk b k = k (.bool (decide (b ≤ a))) := by
  show need _ _ = _; rw [sameKind_self, kB_eq', ilt_eq]
  have : not (decide (a < b)) = decide (b ≤ a) := by rw [Bool.eq_iff_iff]; simp
  rw [this]; rfl
theorem intBin_eql : intBin .eql kk a kk b k = k (.bool (decide (a = b))) := by show need _ _ = _; rw [sameKind_self, kB_eq', ieq_eq]; rfl
theorem intBin_neq : intBin .neq kk a kk b k = k (.bool (decide (a ≠ b))) := by
  show need _ _ = _; rw [sameKind_self, kB_eq', ieq_eq]
  have : not (a == b) = decide (a ≠ b) := by rw [Bool.eq_iff_iff]; simp
  rw [this]; rfl
theorem genI_int {z : Int} : genI (.pure (.int kk z)) k = k (.int kk z) := fInt_eq z fun n => k (.int kk n)
theorem gen_add : gen .add kk a kk b k = k (.int kk (kk.wrap (a + b))) := by
  have : Go.binOp .add 0 (.int kk a) (.int kk b) = .pure (.int kk (kk.wrap (a + b))) := by simp [Go.binOp, Op.intArith]; rfl
  show genI _ _ = _; rw [this, genI_int]
theorem gen_sub : gen .sub kk a kk b k = k (.int kk (kk.wrap (a - b))) := by
  have : Go.binOp .sub 0 (.int kk a) (.int kk b) = .pure (.int kk (kk.wrap (a - b))) := by simp [Go.binOp, Op.intArith]; rfl
  show genI _ _ = _; rw [this, genI_int]
theorem intBin_add : intBin .add kk a kk b k = k (.int kk (kk.wrap (a + b))) := by
  show addI kk a kk b k = _
  unfold addI
  split
  · rename_i m m'
    rw [sameKind_self, need_true, fNat_eq, brec_ble]
    split
    · rename_i hle
      have := wrap64 (m + m') hle
      rw [show (Int.ofNat m + Int.ofNat m' : Int) = ((m + m' : Nat) : Int) from rfl, this]; rfl
    · exact gen_add
  · exact gen_add
theorem intBin_sub : intBin .sub kk a kk b k = k (.int kk (kk.wrap (a - b))) := by
  show subI kk a kk b k = _
  unfold subI
  split
  · rename_i m m'
    rw [sameKind_self, need_true, brec_ble]
    split
    · rename_i hle
      rw [fNat_eq, brec_ble]
      split
      · rename_i hle2
        have := wrap64 (m - m') hle2
        rw [show (Int.ofNat m - Int.ofNat m' : Int) = ((m - m' : Nat) : Int) by simp only [Int.ofNat_eq_natCast]; omega, this]; rfl
      · exact gen_sub
    · exact gen_sub
  · exact gen_sub
theorem wrap_i64 (h1 : -9223372036854775808 ≤ a) (h2 : a ≤ 9223372036854775807) : IntKind.i64.wrap a = a := by
  rw [IntKind.wrap_i64]; omega
theorem ixOf_int (h : 0 ≤ a) {f : Nat → Out} : ixOf (.int kk a) f = f a.toNat := by
  cases a with
  | ofNat m => rfl
  | negSucc m => exact absurd h (by simp)
theorem boundN_none {d : Nat} {f : Nat → Out} : boundN none d f = f d := rfl
theorem boundN_int (h : 0 ≤ a) {d : Nat} {f : Nat → Out} : boundN (some (.int kk a)) d f = f a.toNat := by
  cases a with
  | ofNat m => rfl
  | negSucc m => exact absurd h (by simp)
theorem convInt_i64 (h1 : -9223372036854775808 ≤ a) (h2 : a ≤ 9223372036854775807) : convInt .i64 a k = k (.int .i64 a) := by
  have hw : wrapK .i64 a k = k (.int .i64 a) := by show fInt _ _ = _; rw [fInt_eq, wrap_i64 h1 h2]
  unfold convInt
  split
  · rename_i m _; rw [brec_ble]; split
    · rfl
    · exact hw
  · rename_i hk; cases hk
  · exact hw
theorem minK_int {x y : Int} {k1 k2 : IntKind} : minK (.int k1 x) (.int k2 y) k = k (.int k1 (if y < x then y else x)) := by
  show mm _ _ _ _ _ = _
  rw [ilt_eq]; unfold mm
  by_cases h : y < x <;> simp [h]
theorem maxK_int {x y : Int} {k1 k2 : IntKind} : maxK (.int k1 x) (.int k2 y) k = k (.int k1 (if x < y then y else x)) := by
  show mm _ _ _ _ _ = _
  rw [ilt_eq]; unfold mm
  by_cases h : x < y <;> simp [h]
theorem unK_not {b : Bool} : unK .not k (.bool b) = k (.bool (not b)) := kB_eq'
end

/- texts -/
section
variable {tys : T TI} {t : Nat} {a b : List Nat} {k : V → Out}
theorem binK_str {op : BinOp} : binK tys op t (.str a) (.str b) k = strBin op a b k := rfl
theorem strBin_eql : strBin .eql a b k = k (.bool (decide (a = b))) := by
  show kB _ _ = _; rw [kB_eq', eqL_eq]
  have : (a == b) = decide (a = b) := by rw [Bool.eq_iff_iff]; simp
  rw [this]
theorem strBin_neq : strBin .neq a b k = k (.bool (decide (a ≠ b))) := by
  show kB _ _ = _; rw [kB_eq', eqL_eq]
  have : not (a == b) = decide (a ≠ b) := by rw [Bool.eq_iff_iff]; simp
  rw [this]
theorem strBin_add : strBin .add a b k = need (Nat.ble (a ++ b).length most64) (k (.str (a ++ b))) := by show fL _ _ = _; rw [fL_eq]
theorem strBin_lss : strBin .lss a b k = k (.bool (decide (cmpL a b < 0))) := by show kB _ _ = _; rw [kB_eq', ilt_eq]; rfl
theorem strBin_gtr : strBin .gtr a b k = k (.bool (decide (0 < cmpL a b))) := by show kB _ _ = _; rw [kB_eq', ilt_eq]; rfl
end

/- parts, equality -/
section
variable {tys : T TI} {k : V → Out}
theorem extractK_tuple {j : Nat} {vs : List V} : extractK j k (.tuple vs) = om (vs[j]?) k := by show om (nth vs j) k = _; rw [nth_eq]
theorem nilCheckK_ptr {id off : Nat} : nilCheckK k (.ptr id off) = k (.ptr id off) := rfl
theorem nilCheckK_func {f : Nat} {a b : List V} : nilCheckK k (.func f a b) = k (.func f a b) := rfl
/-- the parts of a struct's kind -/
noncomputable def structIn (kd : TK) (f : Nat) (k : Nat × Nat × Nat × Bool → Out) : Out := match kd with | .struct fs => om (nth fs f) k | _ => bad 55
theorem structOf_eq {t f : Nat} {k : Nat × Nat × Nat × Bool → Out} : structOf tys t f k = om (tys.get t) fun ti => structIn ti.kind f k := rfl
theorem structIn_struct {f : Nat} {fs : List (Nat × Nat × Nat × Bool)} {k : Nat × Nat × Nat × Bool → Out} : structIn (.struct fs) f k = om (fs[f]?) k := by show om (nth fs f) k = _; rw [nth_eq]
theorem fieldAddrK_ptr {t f id off : Nat} : fieldAddrK tys t f k (.ptr id off) = structOf tys t f fun p => need (not (Nat.beq p.2.2.1 0)) (k (.ptr id (off + p.1))) := by
  show structOf _ _ _ _ = _
  congr 1; funext p; rw [fNat_eq]; rfl
theorem fieldK_agg {t f : Nat} {cs : List V} : fieldK tys t f k (.agg cs) = structOf tys t f fun p => om (tys.get p.2.1) fun ti => partV ti cs p.1 k := rfl
theorem partV_eq {ti : TI} {cs : List V} {off : Nat} : partV ti cs off k = Bool.rec (om (cs[off]?) k) (k (.agg ((cs.drop off).take ti.size))) (isAggK ti.kind) := by
  unfold partV
  rw [nth_eq, spine_eq]
theorem isAggK_struct {fs : List (Nat × Nat × Nat × Bool)} : isAggK (.struct fs) = true := rfl
theorem isAggK_array {a b : Nat} : isAggK (.array a b) = true := rfl
theorem isAggK_int {kk : IntKind} : isAggK (.int kk) = false := rfl
theorem isAggK_bool : isAggK .bool = false := rfl
theorem isAggK_string : isAggK .string = false := rfl
theorem isAggK_ptr {e : Nat} : isAggK (.ptr e) = false := rfl
theorem isAggK_slice {e : Nat} : isAggK (.slice e) = false := rfl
theorem isAggK_map {a e : Nat} : isAggK (.map a e) = false := rfl
theorem isAggK_func : isAggK .func = false := rfl

/-- the element type of a row's kind -/
noncomputable def sliceIn (kd : TK) (k : Nat → Out) : Out := match kd with | .slice e => k e | _ => bad 60
noncomputable def lenIn (h : T O) (kd : TK) (x : V) (k : V → Out) : Out :=
  match kd with
  | .string => (match x with | .str l => kN k (List.length l) | _ => bad 39)
  | .slice _ => lenSl x k
  | .map _ _ => lenMap h x k
  | _ => bad 40
theorem lenV_eq {h : T O} {t : Nat} {x : V} : lenV tys h t x k = om (tys.get t) fun ti => lenIn h ti.kind x k := rfl
theorem lenIn_str {h : T O} {l : List Nat} : lenIn h .string (.str l) k = k (.int .i64 (l.length : Int)) := kN_eq'
theorem lenIn_slice {h : T O} {e id off len kk lo : Nat} {ex : Bool} : lenIn h (.slice e) (.slice id off len ex kk lo) k = k (.int .i64 (len : Int)) := kN_eq'
theorem lenIn_tail {h : T O} {e id off a z kk : Nat} : lenIn h (.slice e) (.tail id off a z kk) k = k (.int .i64 0) := kN_eq' (k := k) (m := 0)
theorem lenIn_nil {h : T O} {e a : Nat} {a0 : Option Addr} : lenIn h (.slice e) (.base (.slice a0 0 a)) k = k (.int .i64 0) := kN_eq' (k := k) (m := 0)
noncomputable def ixIn (tys : T TI) (kd : TK) (x : V) (i : Nat) (k : V → Out) : Out :=
  match kd with
  | .array len e => (match x with | .ptr id off => ixAddr tys e id off len i k | _ => bad 59)
  | .slice e => (match x with | .slice id off len _ _ _ => ixAddr tys e id off len i k | _ => bad 59)
  | _ => bad 60
theorem indexAddrK_eq {t : Nat} {x j : V} : indexAddrK tys t x j k = ixOf j fun i => om (tys.get t) fun ti => ixIn tys ti.kind x i k := rfl
theorem ixIn_slice {e id off len kk lo i : Nat} {ex : Bool} : ixIn tys (.slice e) (.slice id off len ex kk lo) i k = ixAddr tys e id off len i k := rfl
theorem ixIn_array {len e id off i : Nat} : ixIn tys (.array len e) (.ptr id off) i k = ixAddr tys e id off len i k := rfl
theorem ixAddr_eq {e id off len i : Nat} : ixAddr tys e id off len i k = om (tys.get e) fun te => need (Nat.ble (i + 1) len) (k (.ptr id (off + i * te.size))) := by
  unfold ixAddr
  congr 1; funext te; rw [fNat_eq]; rfl
noncomputable def ivIn (tys : T TI) (kd : TK) (x : V) (i : Nat) (k : V → Out) : Out :=
  match kd with
  | .array len e => aggOf x fun cs => om (tys.get e) fun te => need (Nat.ble (Nat.succ i) len) (partV te cs (Nat.mul i te.size) k)
  | .string => (match x with | .str l => om (nth l i) fun b => k (.int .u8 (.ofNat b)) | _ => bad 61)
  | _ => bad 62
theorem indexK_eq {t : Nat} {x j : V} : indexK tys t x j k = ixOf j fun i => om (tys.get t) fun ti => ivIn tys ti.kind x i k := rfl
theorem ivIn_str {l : List Nat} {i : Nat} : ivIn tys .string (.str l) i k = om (l[i]?) fun b => k (.int .u8 (b : Int)) := by show om (nth l i) _ = _; rw [nth_eq]; rfl
theorem ivIn_array {len e i : Nat} {cs : List V} : ivIn tys (.array len e) (.agg cs) i k = om (tys.get e) fun te => need (Nat.ble (i + 1) len) (partV te cs (i * te.size) k) := rfl
noncomputable def slIn (tys : T TI) (kd : TK) (x : V) (lo hi mx : Option V) (k : V → Out) : Out :=
  match kd with
  | .string => sliceStr x lo hi mx k
  | .slice e => sliceSl tys e x lo hi mx k
  | .array n e => sliceAr tys n e x lo hi mx k
  | _ => bad 36
theorem sliceK_eq {t : Nat} {x : V} {lo hi mx : Option V} : sliceK tys t x lo hi mx k = om (tys.get t) fun ti => slIn tys ti.kind x lo hi mx k := rfl
theorem slIn_str {x : V} {lo hi mx : Option V} : slIn tys .string x lo hi mx k = sliceStr x lo hi mx k := rfl
theorem slIn_slice {e : Nat} {x : V} {lo hi mx : Option V} : slIn tys (.slice e) x lo hi mx k = sliceSl tys e x lo hi mx k := rfl
theorem slIn_array {m e : Nat} {x : V} {lo hi mx : Option V} : slIn tys (.array m e) x lo hi mx k = sliceAr tys m e x lo hi mx k := rfl
theorem sliceSl_eq {e id off len kk low : Nat} {ex : Bool} {lo hi : Option V} : sliceSl tys e (.slice id off len ex kk low) lo hi none k = om (tys.get e) fun te =>
    boundN lo 0 fun a => boundN hi len fun b => need (and (Nat.ble a b) (Nat.ble b low)) (sliceSl2 te.size id off ex kk low a b k) := rfl
theorem sliceSl_eq3 {e id off len kk low : Nat} {ex : Bool} {lo hi : Option V} {mx : V} : sliceSl tys e (.slice id off len ex kk low) lo hi (some mx) k = om (tys.get e) fun te =>
    boundN lo 0 fun a => boundN hi len fun b => boundN (some mx) 0 fun m => need (and (Nat.ble a b) (and (Nat.ble b m) (Nat.ble m low))) (sliceSl3 te.size id off a b m k) := rfl
theorem sliceSl2_eq {esz id off kk low a b : Nat} {ex : Bool} : sliceSl2 esz id off ex kk low a b k = Bool.rec
    (if a = 0 ∨ a + 1 ≤ low then k (.slice id (off + a * esz) (b - a) false (kk + a) (low - a)) else need (Nat.beq b a) (k (.tail id off a esz kk)))
    (k (.slice id (if kk = a then off else off + a * esz) (b - a) true (kk - a) (low - a))) ex := by
  unfold sliceSl2 offTo
  simp only [fNat_eq, brec_beq]
  cases ex with
  | true => rfl
  | false =>
    simp only
    by_cases h1 : a = 0
    · subst h1; simp
    · have e1 : Nat.beq a 0 = false := by
        cases hb : Nat.beq a 0 with
        | false => rfl
        | true => exact absurd (Nat.eq_of_beq_eq_true hb) h1
      rw [e1, Bool.false_or, brec_ble]
      by_cases h2 : a + 1 ≤ low
      · rw [if_pos (show a.succ ≤ low from h2), if_pos (.inr h2)]; rfl
      · rw [if_neg (show ¬ a.succ ≤ low from h2), if_neg (by rintro (h | h) <;> omega)]
theorem sliceSl3_eq {esz id off a b m : Nat} : sliceSl3 esz id off a b m k = k (.slice id (if m = a then off else off + a * esz) (b - a) true (m - a) (m - a)) := by
  unfold sliceSl3 offTo
  simp only [fNat_eq, brec_beq]; rfl
theorem sliceStr_eq {l : List Nat} {lo hi : Option V} : sliceStr (.str l) lo hi none k = boundN lo 0 fun a => boundN hi l.length fun b => need (and (Nat.ble a b) (Nat.ble b l.length)) (k (.str ((l.drop a).take (b - a)))) := by
  unfold sliceStr
  simp only [fNat_eq, fL_eq]; rfl
end

/- rows that are built -/
section
variable {regs : T V} {tys : T TI}
theorem repL_eq {m : Nat} {z : List V} {k : List V → Out} : repL m z k = k (List.replicate m z).flatten := by
  have go : ∀ (m : Nat) (acc : List V), (Nat.rec (motive := fun _ => List V → Out) (fun acc => k acc) (fun _ ih acc => spine (z ++ acc) ih) m acc : Out) = k ((List.replicate m z).flatten ++ acc) := by
    intro m
    induction m with
    | zero => intro acc; rfl
    | succ m ih =>
      intro acc
      show spine (z ++ acc) _ = _
      rw [spine_eq, ih, List.replicate_succ']
      simp
  show (Nat.rec (motive := fun _ => List V → Out) (fun acc => k acc) (fun _ ih acc => spine (z ++ acc) ih) m [] : Out) = _
  rw [go]; simp
theorem fillK_nil {place : Nat → (Nat → Nat → Out) → Out} {m : Nat} {cells : List V} {k : List V → Out} : fillK regs place m [] cells k = k cells := rfl
theorem fillK_cons {place : Nat → (Nat → Nat → Out) → Out} {m i : Nat} {x : Operand} {ps : List (Nat × Operand)} {cells : List V} {k : List V → Out} : fillK regs place m ((i, x) :: ps) cells k =
    ev regs x fun v => place i fun off size => need (and (Nat.beq (List.length (cellsOf v)) size) (Nat.ble (off + size) m)) (fillK regs place m ps (cells.take off ++ cellsOf v ++ cells.drop (off + (cellsOf v).length)) k) := by
  show (ev regs x fun v => place i fun off size => need _ (spine _ _)) = _
  congr 1; funext v; congr 1; funext off size; rw [spine_eq]; rfl
theorem plA_eq {esz i : Nat} {go : Nat → Nat → Out} : plA esz i go = go (i * esz) esz := rfl
theorem plF_eq {fs : List (Nat × Nat × Nat × Bool)} {i : Nat} {go : Nat → Nat → Out} : plF fs i go = om (fs[i]?) fun f => go f.1 f.2.2.1 := by show om (nth fs i) _ = _; rw [nth_eq]
noncomputable def slTy (tys : T TI) (kd : TK) (k : TI → Out) : Out := match kd with | .slice e => om (tys.get e) k | _ => bad 81
theorem sliceTy_eq {t : Nat} {k : TI → Out} : sliceTy tys t k = om (tys.get t) fun ti => slTy tys ti.kind k := rfl
theorem slTy_slice {e : Nat} {k : TI → Out} : slTy tys (.slice e) k = om (tys.get e) k := rfl
theorem buildSliceK_eq {te : TI} {len : Nat} {ps : List (Nat × Operand)} {k : O → (Nat → V) → Out} : buildSliceK regs te len ps k =
    need (Nat.ble (len * te.size) 16777216) (fillK regs (plA te.size) (len * te.size) ps (List.replicate len te.zero).flatten fun l => k (.cells (ofT l) l.length te.size) fun id => .slice id 0 len true len len) := by
  show need _ (repL _ _ _) = _
  rw [repL_eq]
  congr 1
  congr 1; funext l; rw [blockK_eq]
noncomputable def buildIn (tys : T TI) (regs : T V) (kd : TK) (size : Nat) (zero : List V) (ps : List (Nat × Operand)) (k : V → Out) : Out :=
  match kd with
  | .struct fs => need (allTy tys fs) (fillK regs (plF fs) size ps zero fun l => k (.agg l))
  | .array _ e => om (tys.get e) fun te => fillK regs (plA te.size) size ps zero fun l => k (.agg l)
  | _ => bad 45
theorem buildK_eq {t : Nat} {ps : List (Nat × Operand)} {k : V → Out} : buildK tys regs t ps k = om (tys.get t) fun ti => buildIn tys regs ti.kind ti.size ti.zero ps k := rfl
theorem buildIn_struct {fs : List (Nat × Nat × Nat × Bool)} {m : Nat} {z : List V} {ps : List (Nat × Operand)} {k : V → Out} : buildIn tys regs (.struct fs) m z ps k = need (allTy tys fs) (fillK regs (plF fs) m ps z fun l => k (.agg l)) := rfl
theorem allTy_nil : allTy tys [] = true := rfl
theorem allTy_cons {f : Nat × Nat × Nat × Bool} {fs : List (Nat × Nat × Nat × Bool)} : allTy tys (f :: fs) = and (Option.isSome (tys.get f.2.1)) (allTy tys fs) := by
  show and (Option.rec (motive := fun _ => Bool) false (fun _ => true) (tys.get f.2.1)) (allTy tys fs) = _
  cases tys.get f.2.1 <;> rfl
end

/- appending -/
section
variable {tys : T TI} {h : T O} {n : Nat} {k : Kv}
theorem appendK_slice {t id off len kk lo : Nat} {ex : Bool} {x : V} : appendK tys h n t (.slice id off len ex kk lo) x k = sliceTy tys t fun te => srcK h te x fun l m => app1 h n te.size id off len ex kk lo l m (len + m) k := by
  unfold appendK
  congr 1; funext te; congr 1; funext l m
  show fNat (Nat.add len m) (fun nd => app1 h n te.size id off len ex kk lo l m nd k) = _
  rw [fNat_eq]; rfl
theorem appendK_base {t : Nat} {b : Value} {x : V} : appendK tys h n t (.base b) x k = sliceTy tys t fun te => srcK h te x fun l m => app0 h n te.size (.base b) l m k := rfl
theorem appendK_tail {t id off a esz kk : Nat} {x : V} : appendK tys h n t (.tail id off a esz kk) x k = sliceTy tys t fun te => srcK h te x fun l m => need (Nat.beq esz te.size) (Bool.rec (app2 h n te.size id off kk l m k) (k (.tail id off a esz kk) h n) (Nat.beq m 0)) := rfl
theorem srcK_slice {te : TI} {id off len kk lo : Nat} {ex : Bool} {k : List V → Nat → Out} : srcK h te (.slice id off len ex kk lo) k = cellsAt h id off (len * te.size) fun l => k l len := rfl
theorem srcK_nil {te : TI} {m c : Nat} {a0 : Option Addr} {k : List V → Nat → Out} : srcK h te (.base (.slice a0 m c)) k = need (Nat.beq m 0) (k [] 0) := rfl
theorem srcK_tail {te : TI} {a b c d e : Nat} {k : List V → Nat → Out} : srcK h te (.tail a b c d e) k = k [] 0 := rfl
theorem growK_eq {esz nd : Nat} {l : List V} : growK h n esz l nd k = need (Nat.ble nd 1000000) (k (.slice n 0 nd false 0 nd) (h.put n (some (.cells (ofT l) l.length esz))) (n + 1)) := by
  unfold growK
  rw [blockK_eq, newO_eq]
theorem app0_nil {esz a b m : Nat} {l : List V} : app0 h n esz (.base (.slice none a b)) l m k = need (and (Nat.beq a 0) (Nat.beq b 0)) (if m = 0 then k (.base (.slice none a b)) h n else growK h n esz l m k) := by
  show need _ (Bool.rec _ _ (Nat.beq m 0)) = _
  rw [brec_beq]
theorem app2_eq {esz id off kk nd : Nat} {all : List V} : app2 h n esz id off kk all nd k = om (h.get id) fun o => oCells o fun _ _ e => need (and (and (Nat.beq e esz) (Nat.beq off (kk * esz))) (allOne all)) (growK (h.put id none) n esz all nd k) := by
  unfold app2
  congr 1; funext o; congr 1; funext a b e
  rw [T.setK_eq]; rfl
theorem app1_eq {esz id off len kk lo m nd : Nat} {ex : Bool} {l : List V} : app1 h n esz id off len ex kk lo l m nd k =
    if nd ≤ lo then (if m = 0 then k (.slice id off nd ex kk lo) h n else storeN h id (off + len * esz) l fun h => k (.slice id off nd ex kk lo) h n)
    else cellsAt h id off (len * esz) fun old => Bool.rec (app2 h n esz id off kk (old ++ l) nd k) (need (Nat.ble kk lo) (growK h n esz (old ++ l) nd k)) ex := by
  unfold app1
  simp only [brec_ble, brec_beq, spine_eq]
  rfl
end
theorem slTyOf {tys : T TI} {e : Nat} {te : TI} : slTy tys (.slice e) = fun k => om (tys.get e) k := rfl

/- cells over cells -/
section
variable {tys : T TI} {h : T O}
theorem copyK_slice {t id off len k1 l1 id2 off2 len2 k2 l2 : Nat} {e1 e2 : Bool} {k : V → T O → Out} : copyK tys h t (.slice id off len e1 k1 l1) (.slice id2 off2 len2 e2 k2 l2) k =
    sliceTy tys t fun te => cellsAt h id2 off2 ((if len - len2 = 0 then len else len2) * te.size) fun l => storeN h id off l fun h => k (.int .i64 ((if len - len2 = 0 then len else len2 : Nat) : Int)) h := by
  have e : ∀ q : Nat, (Nat.rec (motive := fun _ => Nat) len (fun _ _ => len2) q : Nat) = if q = 0 then len else len2 := fun q => by
    cases q with
    | zero => rfl
    | succ q => rfl
  unfold copyK
  congr 1; funext te
  show fNat _ _ = _
  rw [fNat_eq, e]
  show cellsAt h id2 off2 _ _ = _
  congr 1; funext l; congr 1; funext h; exact kN_eq'
theorem copyK_tail {t a b c d e id2 off2 len2 k2 l2 : Nat} {e2 : Bool} {k : V → T O → Out} : copyK tys h t (.tail a b c d e) (.slice id2 off2 len2 e2 k2 l2) k = sliceTy tys t fun _ => k (.int .i64 0) h := rfl
theorem loadN_ofT {L : List V} {p m : Nat} (hm : p + m ≤ L.length) {k : List V → Out} : loadN (ofT L) p m k = k ((L.drop p).take m) := by
  have hl : ((L.drop p).take m).length = m := by simp; omega
  have := loadN_of (t := ofT L) (off := p) ((L.drop p).take m) (fun j hj => by
    rw [ofT_get, List.getElem?_take, if_pos (by omega), List.getElem?_drop]) (k := k)
  rw [hl] at this; exact this
end
theorem allOne_of : ∀ {l : List V}, (∀ v ∈ l, oneV v = true) → allOne l = true
  | [], _ => rfl
  | v :: l, h => by
    show and (oneV v) (allOne l) = true
    rw [h v (by simp), allOne_of fun w hw => h w (by simp [hw])]; rfl

/- one cell each -/
theorem allOne_nil : allOne [] = true := rfl
theorem allOne_cons {v : V} {l : List V} : allOne (v :: l) = and (oneV v) (allOne l) := rfl
theorem oneV_int {k : IntKind} {a : Int} : oneV (.int k a) = true := rfl
theorem oneV_bool {b : Bool} : oneV (.bool b) = true := rfl
theorem oneV_str {l : List Nat} : oneV (.str l) = true := rfl
theorem oneV_ptr {a b : Nat} : oneV (.ptr a b) = true := rfl
theorem oneV_slice {a b c d e : Nat} {x : Bool} : oneV (.slice a b c x d e) = true := rfl
theorem oneV_tail {a b c d e : Nat} : oneV (.tail a b c d e) = true := rfl
theorem oneV_map {a : Nat} : oneV (.map a) = true := rfl
theorem oneV_func {f : Nat} {a b : List V} : oneV (.func f a b) = true := rfl
theorem oneV_base {v : Value} : oneV (.base v) = true := rfl

theorem cellsOf_agg {l : List V} : cellsOf (.agg l) = l := rfl
theorem cellsOf_int {k : IntKind} {a : Int} : cellsOf (.int k a) = [.int k a] := rfl
theorem cellsOf_bool {b : Bool} : cellsOf (.bool b) = [.bool b] := rfl
theorem cellsOf_str {l : List Nat} : cellsOf (.str l) = [.str l] := rfl
theorem cellsOf_ptr {a b : Nat} : cellsOf (.ptr a b) = [.ptr a b] := rfl
theorem cellsOf_slice {a b c d e : Nat} {x : Bool} : cellsOf (.slice a b c x d e) = [.slice a b c x d e] := rfl
theorem cellsOf_tail {a b c d e : Nat} : cellsOf (.tail a b c d e) = [.tail a b c d e] := rfl
theorem cellsOf_map {a : Nat} : cellsOf (.map a) = [.map a] := rfl
theorem cellsOf_func {f : Nat} {a b : List V} : cellsOf (.func f a b) = [.func f a b] := rfl
theorem cellsOf_base {v : Value} : cellsOf (.base v) = [.base v] := rfl
theorem cellsOf_one {v : V} (h : oneV v = true) : cellsOf v = [v] := by cases v <;> first | rfl | cases h

/- the same once more -/
section
variable {k : Out}
theorem eqL_self (l : List Nat) : eqL l l = true := by rw [eqL_eq]; simp
theorem same_ptr {a b : Nat} : need (sameV (.ptr a b) (.ptr a b)) k = k := by
  have : sameV (.ptr a b) (.ptr a b) = true := by show and (Nat.beq a a) (Nat.beq b b) = true; simp
  rw [this]; rfl
theorem same_int {kk : IntKind} {a : Int} : need (sameV (.int kk a) (.int kk a)) k = k := by
  have : sameV (.int kk a) (.int kk a) = true := by show and (sameKind kk kk) (ieq a a) = true; rw [sameKind_self, ieq_eq]; simp
  rw [this]; rfl
theorem same_bool {b : Bool} : need (sameV (.bool b) (.bool b)) k = k := by cases b <;> rfl
theorem same_str {l : List Nat} : need (sameV (.str l) (.str l)) k = k := by
  have : sameV (.str l) (.str l) = true := eqL_self l
  rw [this]; rfl
theorem sameB_slice {a b c d e : Nat} {ex : Bool} : sameB (.slice a b c ex d e) (.slice a b c ex d e) = true := by
  show and (Nat.beq a a) (and (Nat.beq b b) (and (Nat.beq c c) (and (Bool.rec (not ex) ex ex) (and (Nat.beq d d) (Nat.beq e e))))) = true
  cases ex <;> simp
theorem same_slice {a b c d e : Nat} {ex : Bool} : need (sameV (.slice a b c ex d e) (.slice a b c ex d e)) k = k := by
  have : sameV (.slice a b c ex d e) (.slice a b c ex d e) = true := sameB_slice
  rw [this]; rfl
theorem same_tail {a b c d e : Nat} : need (sameV (.tail a b c d e) (.tail a b c d e)) k = k := by
  have : sameV (.tail a b c d e) (.tail a b c d e) = true := by show and (Nat.beq a a) (and (Nat.beq b b) (and (Nat.beq c c) (and (Nat.beq d d) (Nat.beq e e)))) = true; simp
  rw [this]; rfl
theorem same_nil {a b : Nat} : need (sameV (.base (.slice none a b)) (.base (.slice none a b))) k = k := by
  have : sameV (.base (.slice none a b)) (.base (.slice none a b)) = true := by show and (Nat.beq a a) (Nat.beq b b) = true; simp
  rw [this]; rfl
theorem need_plain {t : T V} {m e : Nat} : need (plainO (.cells t m e)) k = k := rfl
theorem need_plainm {es : List (V × V × Nat)} {c : Nat} : need (plainO (.map es c)) k = k := rfl
theorem same_func {f : Nat} : need (sameV (.func f [] []) (.func f [] [])) k = k := by
  have : sameV (.func f [] []) (.func f [] []) = true := by show and (Nat.beq f f) (and true true) = true; simp
  rw [this]; rfl
end

/- calls -/
section
variable {E : Env} {fr : Fr} {cs : List Fr} {h : T O} {n : Nat} {go : Go_} {fin : Kv}
theorem callK_func {g : Nat} {a b args : List V} : callK E (.func g a b) args fr cs h n go fin = enterK E g (a ++ args ++ b) fr cs h n go fin := by
  show spine _ _ = _; rw [spine_eq]
theorem callK_yield {l : Nat} {args : List V} : callK E (.yield l) args fr cs h n go fin = om (h.get l) (roundK l args fr cs h n go) := rfl
theorem enterK_hook {f : Nat} {args : List V} {v : V} (hh : E.hook f args h = some v) : enterK E f args fr cs h n go fin = fin v h n := by
  unfold enterK; rw [hh]; rfl
theorem enterK_body {f : Nat} {args : List V} {fn : Func} {body : Code} (hh : E.hook f args h = none) (hf : E.fns.get f = some fn) (hs : E.subs.get f = none) (hb : fn.body = some body) (hl : args.length ≤ fn.ntmps) :
    enterK E f args fr cs h n go fin = go ⟨f, fn.ntmps, [], none⟩ (argT args fn.ntmps) [.code body] (fr :: cs) h n := by
  unfold enterK; rw [hh]
  show om (E.fns.get f) _ = _
  rw [hf, om_some, hs]
  show enterB E f fn args fr cs h n go fin = _
  unfold enterB; rw [hb]
  show fNat _ _ = _
  rw [fNat_eq, regsOf_eq, need_ble hl]
theorem enterK_ext {f : Nat} {args : List V} {fn : Func} {e : Ext} (hh : E.hook f args h = none) (hf : E.fns.get f = some fn) (hs : E.subs.get f = none) (hb : fn.body = none) (he : E.ext.get f = some e) :
    enterK E f args fr cs h n go fin = extK e args h n fin := by
  unfold enterK; rw [hh]
  show om (E.fns.get f) _ = _
  rw [hf, om_some, hs]
  show enterB E f fn args fr cs h n go fin = _
  unfold enterB; rw [hb]
  show (match E.ext.get f with | some e => extK e args h n fin | none => _) = _
  rw [he]
theorem popK_nil {v : V} : popK v [] h n go = .ok ⟨v, h, n⟩ := rfl
theorem popK_reg {v : V} {i : Fi} {regs : T V} {all rem : List Oper} {o : Oper} {t : List It} : popK v (⟨i, regs, .reg all (o :: rem) :: t⟩ :: cs) h n go = setD regs o.dst i.sz v fun regs => go i regs (.reg all rem :: t) cs h n := rfl
noncomputable def pE (oo : Option Oper) (v : V) (i : Fi) (regs : T V) (all : List Oper) (sc : List Sc) (t : List It) (cs : List Fr) (h : T O) (n : Nat) (go : Go_) : Out := om oo fun o => setD regs o.dst i.sz v fun regs => go i regs (.dreg all sc :: t) cs h n
theorem popK_dreg {v : V} {i : Fi} {regs : T V} {all : List Oper} {j : Nat} {sc : List Sc} {t : List It} : popK v (⟨i, regs, .dreg all (.ch j :: sc) :: t⟩ :: cs) h n go = pE (nth all j) v i regs all sc t cs h n go := rfl
theorem pE_some {v : V} {i : Fi} {regs : T V} {all : List Oper} {sc : List Sc} {t : List It} {dst : Option Nat} {op : Op} {ty : Nat} {pos : String} {after : Array Edge} {g : Option (Nat × Bool)} :
    pE (some ⟨dst, op, ty, pos, after, g⟩) v i regs all sc t cs h n go = setD regs dst i.sz v fun regs => go i regs (.dreg all sc :: t) cs h n := rfl
theorem popK_range {v : V} {i : Fi} {regs : T V} {l : Nat} {t : List It} : popK v (⟨i, regs, .inRange l :: t⟩ :: cs) h n go = go i regs (.endRange l :: t) cs h n := rfl

/-- what the results are -/
noncomputable def resGo (h : T O) (tys : T TI) (regs : T V) : List ResultVar → (List V → Out) → Out
  | [], k => k []
  | .tmp t :: l, k => om (regs.get t) fun v => resGo h tys regs l fun vs => k (v :: vs)
  | .cell a t :: l, k => om (regs.get a) fun a => loadK tys h t a fun v => resGo h tys regs l fun vs => k (v :: vs)
theorem resGo_nil {tys : T TI} {regs : T V} {k : List V → Out} : resGo h tys regs [] k = k [] := rfl
theorem resGo_tmp {tys : T TI} {regs : T V} {t : Nat} {l : List ResultVar} {k : List V → Out} : resGo h tys regs (.tmp t :: l) k = om (regs.get t) fun v => resGo h tys regs l fun vs => k (v :: vs) := rfl
theorem resGo_cell {tys : T TI} {regs : T V} {a t : Nat} {l : List ResultVar} {k : List V → Out} : resGo h tys regs (.cell a t :: l) k = om (regs.get a) fun a => loadK tys h t a fun v => resGo h tys regs l fun vs => k (v :: vs) := rfl
/-- one result stands alone, several together -/
noncomputable def tupV (l : List V) : V := match l with | [v] => v | l => .tuple l
theorem tupV_1 {v : V} : tupV [v] = v := rfl
theorem tupV_0 : tupV [] = .tuple [] := rfl
theorem tupV_2 {a b : V} {l : List V} : tupV (a :: b :: l) = .tuple (a :: b :: l) := rfl
theorem resultsK_eq {fn : Func} {tys : T TI} {regs : T V} {k : V → Out} : resultsK fn h tys regs k = resGo h tys regs fn.results.toList fun vs => k (tupV vs) := by
  have go : ∀ (l : List ResultVar) (kk : List V → Out), (List.rec (motive := fun _ => (List V → Out) → Out) (fun k => k [])
    (fun r _ ih k => match r with
      | .tmp t => om (regs.get t) fun v => ih fun vs => k (v :: vs)
      | .cell a t => om (regs.get a) fun a => loadK tys h t a fun v => ih fun vs => k (v :: vs)) l kk : Out) = resGo h tys regs l kk := by
    intro l
    induction l with
    | nil => intro kk; rfl
    | cons r l ih =>
      intro kk
      cases r with
      | tmp t => show om _ _ = om _ _; congr 1; funext v; exact ih _
      | cell a t => show om _ _ = om _ _; congr 1; funext a; congr 1; funext v; exact ih _
  refine (go fn.results.toList _).trans ?_
  congr 1; funext vs
  match vs with
  | [] => rfl
  | [v] => rfl
  | _ :: _ :: _ => rfl
theorem exitK_block {id id' : Nat} {t : List It} {kn : Out} {k : List It → Out} : exitK id (.inBlock id' :: t) kn k = if id' = id then k t else exitK id t kn k := by
  show (Bool.rec _ _ (Nat.beq id' id) : Out) = _
  rw [brec_beq]; rfl
theorem exitK_reg {id : Nat} {a b : List Oper} {t : List It} {kn : Out} {k : List It → Out} : exitK id (.reg a b :: t) kn k = exitK id t kn k := rfl
theorem exitK_code {id : Nat} {c : Code} {t : List It} {kn : Out} {k : List It → Out} : exitK id (.code c :: t) kn k = exitK id t kn k := rfl
theorem exitK_loop {id : Nat} {c : Code} {t : List It} {kn : Out} {k : List It → Out} : exitK id (.inLoop c :: t) kn k = exitK id t kn k := rfl
theorem exitK_scope {id : Nat} {c : Code} {t : List It} {kn : Out} {k : List It → Out} : exitK id (.inScope c :: t) kn k = exitK id t kn k := rfl
end


/-- the rules of values, in one -/
theorem mVal : type_of% (And.intro @need_true <| And.intro @need_and <| And.intro @need_ble <| And.intro @need_beq <| And.intro @need_nbeq <| And.intro @need_decide <| And.intro @isNone_none <| And.intro @isSome_none <| And.intro @isSome_some <| And.intro @om_some <| And.intro @brec_beq <| And.intro @brec_ble <| And.intro @brec_dec <| And.intro @brec_not <| And.intro @setD_none <| And.intro @setD_some <| And.intro @newO_eq <| And.intro @layT_nil <| And.intro @layT_cons <| And.intro @layT_get <| And.intro @regsOf_eq <| And.intro @argT_get <| And.intro @ofT_get <| And.intro @blockK_eq <| And.intro @oCells_cells <| And.intro @rCells_cells <| And.intro @rCells_ro <| And.intro @oMap_map <| And.intro @cellAt_put <| And.intro @cellsAt_put <| And.intro @cellAt_drop <| And.intro @cellsAt_drop <| And.intro @loadN_0 <| And.intro @loadN_1 <| And.intro @loadN_2 <| And.intro @loadN_3 <| And.intro @storeN_eq <| And.intro @storeK_eq <| And.intro @loadK_eq <| And.intro @ev_tmp <| And.intro @ev_func <| And.intro @ev_int <| And.intro @ev_bool <| And.intro @ev_str <| And.intro @ev_nilp <| And.intro @ev_nils <| And.intro @ev_nilm <| And.intro @ev_nilf <| And.intro @evL_nil <| And.intro @evL_cons <| And.intro @evO_none <| And.intro @evO_some <| And.intro @pickK_bool <| And.intro @condK_bool <| And.intro @wantK_none <| And.intro @wantK_some <| And.intro @wE_some <| And.intro @wantV_t <| And.intro @wantV_f <| And.intro @wantV_undef <| And.intro @kB_eq' <| And.intro @kN_eq' <| And.intro @binK_int <| And.intro @intBin_lss <| And.intro @intBin_gtr <| And.intro @intBin_leq <| And.intro @intBin_geq <| And.intro @intBin_eql <| And.intro @intBin_neq <| And.intro @intBin_add <| And.intro @intBin_sub <| And.intro @ixOf_int <| And.intro @boundN_none <| And.intro @minK_int <| And.intro @maxK_int <| And.intro @unK_not <| And.intro @binK_str <| And.intro @strBin_eql <| And.intro @strBin_neq <| And.intro @strBin_add <| And.intro @strBin_lss <| And.intro @strBin_gtr <| And.intro @extractK_tuple <| And.intro @nilCheckK_ptr <| And.intro @nilCheckK_func <| And.intro @structOf_eq <| And.intro @structIn_struct <| And.intro @fieldAddrK_ptr <| And.intro @fieldK_agg <| And.intro @partV_eq <| And.intro @isAggK_struct <| And.intro @isAggK_array <| And.intro @isAggK_int <| And.intro @isAggK_bool <| And.intro @isAggK_string <| And.intro @isAggK_ptr <| And.intro @isAggK_slice <| And.intro @isAggK_map <| And.intro @isAggK_func <| And.intro @lenV_eq <| And.intro @lenIn_str <| And.intro @lenIn_slice <| And.intro @lenIn_tail <| And.intro @lenIn_nil <| And.intro @indexAddrK_eq <| And.intro @ixIn_slice <| And.intro @ixIn_array <| And.intro @ixAddr_eq <| And.intro @indexK_eq <| And.intro @ivIn_str <| And.intro @ivIn_array <| And.intro @sliceK_eq <| And.intro @slIn_str <| And.intro @slIn_slice <| And.intro @slIn_array <| And.intro @sliceSl_eq <| And.intro @sliceSl_eq3 <| And.intro @sliceSl2_eq <| And.intro @sliceSl3_eq <| And.intro @sliceStr_eq <| And.intro @repL_eq <| And.intro @fillK_nil <| And.intro @fillK_cons <| And.intro @plA_eq <| And.intro @plF_eq <| And.intro @sliceTy_eq <| And.intro @slTy_slice <| And.intro @buildSliceK_eq <| And.intro @buildK_eq <| And.intro @buildIn_struct <| And.intro @allTy_nil <| And.intro @allTy_cons <| And.intro @appendK_slice <| And.intro @appendK_base <| And.intro @appendK_tail <| And.intro @srcK_slice <| And.intro @srcK_nil <| And.intro @srcK_tail <| And.intro @growK_eq <| And.intro @app0_nil <| And.intro @app2_eq <| And.intro @app1_eq <| And.intro @slTyOf <| And.intro @copyK_slice <| And.intro @copyK_tail <| And.intro @loadN_ofT <| And.intro @allOne_of <| And.intro @allOne_nil <| And.intro @allOne_cons <| And.intro @oneV_int <| And.intro @oneV_bool <| And.intro @oneV_str <| And.intro @oneV_ptr <| And.intro @oneV_slice <| And.intro @oneV_tail <| And.intro @oneV_map <| And.intro @oneV_func <| And.intro @oneV_base <| And.intro @cellsOf_agg <| And.intro @cellsOf_int <| And.intro @cellsOf_bool <| And.intro @cellsOf_str <| And.intro @cellsOf_ptr <| And.intro @cellsOf_slice <| And.intro @cellsOf_tail <| And.intro @cellsOf_map <| And.intro @cellsOf_func <| And.intro @cellsOf_base <| And.intro @cellsOf_one <| And.intro @same_ptr <| And.intro @same_int <| And.intro @same_bool <| And.intro @same_str <| And.intro @same_slice <| And.intro @same_tail <| And.intro @same_nil <| And.intro @need_plain <| And.intro @need_plainm <| And.intro @same_func <| And.intro @callK_func <| And.intro @callK_yield <| And.intro @popK_nil <| And.intro @popK_reg <| And.intro @popK_dreg <| And.intro @pE_some <| And.intro @popK_range <| And.intro @resGo_nil <| And.intro @resGo_tmp <| And.intro @resGo_cell <| And.intro @tupV_1 <| And.intro @tupV_0 <| And.intro @tupV_2 <| And.intro @resultsK_eq <| And.intro @exitK_block <| And.intro @exitK_reg <| And.intro @exitK_code <| And.intro @exitK_loop <| @exitK_scope) := And.intro @need_true <| And.intro @need_and <| And.intro @need_ble <| And.intro @need_beq <| And.intro @need_nbeq <| And.intro @need_decide <| And.intro @isNone_none <| And.intro @isSome_none <| And.intro @isSome_some <| And.intro @om_some <| And.intro @brec_beq <| And.intro @brec_ble <| And.intro @brec_dec <| And.intro @brec_not <| And.intro @setD_none <| And.intro @setD_some <| And.intro @newO_eq <| And.intro @layT_nil <| And.intro @layT_cons <| And.intro @layT_get <| And.intro @regsOf_eq <| And.intro @argT_get <| And.intro @ofT_get <| And.intro @blockK_eq <| And.intro @oCells_cells <| And.intro @rCells_cells <| And.intro @rCells_ro <| And.intro @oMap_map <| And.intro @cellAt_put <| And.intro @cellsAt_put <| And.intro @cellAt_drop <| And.intro @cellsAt_drop <| And.intro @loadN_0 <| And.intro @loadN_1 <| And.intro @loadN_2 <| And.intro @loadN_3 <| And.intro @storeN_eq <| And.intro @storeK_eq <| And.intro @loadK_eq <| And.intro @ev_tmp <| And.intro @ev_func <| And.intro @ev_int <| And.intro @ev_bool <| And.intro @ev_str <| And.intro @ev_nilp <| And.intro @ev_nils <| And.intro @ev_nilm <| And.intro @ev_nilf <| And.intro @evL_nil <| And.intro @evL_cons <| And.intro @evO_none <| And.intro @evO_some <| And.intro @pickK_bool <| And.intro @condK_bool <| And.intro @wantK_none <| And.intro @wantK_some <| And.intro @wE_some <| And.intro @wantV_t <| And.intro @wantV_f <| And.intro @wantV_undef <| And.intro @kB_eq' <| And.intro @kN_eq' <| And.intro @binK_int <| And.intro @intBin_lss <| And.intro @intBin_gtr <| And.intro @intBin_leq <| And.intro @intBin_geq <| And.intro @intBin_eql <| And.intro @intBin_neq <| And.intro @intBin_add <| And.intro @intBin_sub <| And.intro @ixOf_int <| And.intro @boundN_none <| And.intro @minK_int <| And.intro @maxK_int <| And.intro @unK_not <| And.intro @binK_str <| And.intro @strBin_eql <| And.intro @strBin_neq <| And.intro @strBin_add <| And.intro @strBin_lss <| And.intro @strBin_gtr <| And.intro @extractK_tuple <| And.intro @nilCheckK_ptr <| And.intro @nilCheckK_func <| And.intro @structOf_eq <| And.intro @structIn_struct <| And.intro @fieldAddrK_ptr <| And.intro @fieldK_agg <| And.intro @partV_eq <| And.intro @isAggK_struct <| And.intro @isAggK_array <| And.intro @isAggK_int <| And.intro @isAggK_bool <| And.intro @isAggK_string <| And.intro @isAggK_ptr <| And.intro @isAggK_slice <| And.intro @isAggK_map <| And.intro @isAggK_func <| And.intro @lenV_eq <| And.intro @lenIn_str <| And.intro @lenIn_slice <| And.intro @lenIn_tail <| And.intro @lenIn_nil <| And.intro @indexAddrK_eq <| And.intro @ixIn_slice <| And.intro @ixIn_array <| And.intro @ixAddr_eq <| And.intro @indexK_eq <| And.intro @ivIn_str <| And.intro @ivIn_array <| And.intro @sliceK_eq <| And.intro @slIn_str <| And.intro @slIn_slice <| And.intro @slIn_array <| And.intro @sliceSl_eq <| And.intro @sliceSl_eq3 <| And.intro @sliceSl2_eq <| And.intro @sliceSl3_eq <| And.intro @sliceStr_eq <| And.intro @repL_eq <| And.intro @fillK_nil <| And.intro @fillK_cons <| And.intro @plA_eq <| And.intro @plF_eq <| And.intro @sliceTy_eq <| And.intro @slTy_slice <| And.intro @buildSliceK_eq <| And.intro @buildK_eq <| And.intro @buildIn_struct <| And.intro @allTy_nil <| And.intro @allTy_cons <| And.intro @appendK_slice <| And.intro @appendK_base <| And.intro @appendK_tail <| And.intro @srcK_slice <| And.intro @srcK_nil <| And.intro @srcK_tail <| And.intro @growK_eq <| And.intro @app0_nil <| And.intro @app2_eq <| And.intro @app1_eq <| And.intro @slTyOf <| And.intro @copyK_slice <| And.intro @copyK_tail <| And.intro @loadN_ofT <| And.intro @allOne_of <| And.intro @allOne_nil <| And.intro @allOne_cons <| And.intro @oneV_int <| And.intro @oneV_bool <| And.intro @oneV_str <| And.intro @oneV_ptr <| And.intro @oneV_slice <| And.intro @oneV_tail <| And.intro @oneV_map <| And.intro @oneV_func <| And.intro @oneV_base <| And.intro @cellsOf_agg <| And.intro @cellsOf_int <| And.intro @cellsOf_bool <| And.intro @cellsOf_str <| And.intro @cellsOf_ptr <| And.intro @cellsOf_slice <| And.intro @cellsOf_tail <| And.intro @cellsOf_map <| And.intro @cellsOf_func <| And.intro @cellsOf_base <| And.intro @cellsOf_one <| And.intro @same_ptr <| And.intro @same_int <| And.intro @same_bool <| And.intro @same_str <| And.intro @same_slice <| And.intro @same_tail <| And.intro @same_nil <| And.intro @need_plain <| And.intro @need_plainm <| And.intro @same_func <| And.intro @callK_func <| And.intro @callK_yield <| And.intro @popK_nil <| And.intro @popK_reg <| And.intro @popK_dreg <| And.intro @pE_some <| And.intro @popK_range <| And.intro @resGo_nil <| And.intro @resGo_tmp <| And.intro @resGo_cell <| And.intro @tupV_1 <| And.intro @tupV_0 <| And.intro @tupV_2 <| And.intro @resultsK_eq <| And.intro @exitK_block <| And.intro @exitK_reg <| And.intro @exitK_code <| And.intro @exitK_loop <| @exitK_scope
end Go.Mir
namespace Go.Mir
open Go Go.RowKit

theorem good_callsW {P : Program} {E : Env} (HE : EnvR P E) {go : Go_} (G : ∀ W0 f0 cs0 B0, Good P E.tys W0 f0 cs0 B0 go) {f : Nat} {args : List V} {h0 : T O} {n0 : Nat} {β0 : Beta} {r : Rz} {W : World}
    (e : (om (E.fns.get f) fun fn => om fn.body fun body => fNat fn.ntmps fun sz => regsOf args sz fun regs => go ⟨f, sz, [], none⟩ regs [.code body] [] h0 n0) = .ok r) {vs : List Value} (hv : concL β0 args = some vs)
    (H : HR W β0 h0 n0 W) : Calls P f vs.toArray W fun e w' => ∃ β' val, conc β' r.v = some val ∧ e = .returned val ∧ HR W β' r.h r.n w' := by
  intro cs0
  replace e := om_ok e; obtain ⟨fn, hfn, e⟩ := e
  replace e := om_ok e; obtain ⟨body, hb, e⟩ := e
  rw [fNat_eq] at e
  replace e := regsOf_ok e; obtain ⟨regs, e, hle, hg⟩ := e
  obtain ⟨hf, _⟩ := HE.fns f fn hfn
  have hE := G W f cs0 ⟨β0, h0, n0⟩ _ _ _ _ _ _ _ e β0 (Frame.enter P f vs.toArray .normal) cs0 W n0
    ⟨H, FrR.entered hf hb hv hle hg, ⟨rfl, rfl, rfl, BaseR.start _ _ _⟩, Nat.le_refl _⟩
  obtain ⟨r', hzr, β, v, w', F', a1, a2, a3, a4, a5, _⟩ := hE
  exact ⟨.returned v, w', F', ⟨β, v, by rw [hzr.v]; exact a1, rfl, (a5.sub hzr.h).up hzr.n⟩, a2, a4, a3⟩

/-- function f is entered with these, from this memory -/
noncomputable def entry (E : Env) (f : Nat) (args : List V) (h : T O) (n : Nat) (go : Go_) : Out :=
  om (E.fns.get f) fun fn => om fn.body fun body => fNat fn.ntmps fun sz => regsOf args sz fun regs => go ⟨f, sz, [], none⟩ regs [.code body] [] h n

/-- WHAT A WALK SHOWS OF A CALL -/
theorem W_calls {P : Program} {E : Env} (HE : EnvR P E) {f : Nat} {args : List V} {h0 : T O} {n0 : Nat} {β0 : Beta} {Q : Rz → Prop} {w : World} (hw : W E Q (entry E f args h0 n0)) {vs : List Value} (hv : concL β0 args = some vs)
    (H : HR w β0 h0 n0 w) : Calls P f vs.toArray w fun e w' => ∃ r, Q r ∧ ∃ β' val, conc β' r.v = some val ∧ e = .returned val ∧ HR w β' r.h r.n w' := by
  obtain ⟨fuel, r, e, q⟩ := hw
  exact (good_callsW HE (fun _ _ _ _ => exec_ok HE fuel) e hv H).mono fun _ _ h => ⟨r, q, h⟩

theorem entry_eq {E : Env} {f : Nat} {fn : Func} {body : Code} {args : List V} {h : T O} {n : Nat} {go : Go_} (hf : E.fns.get f = some fn) (hb : fn.body = some body) (hl : args.length ≤ fn.ntmps) :
    entry E f args h n go = go ⟨f, fn.ntmps, [], none⟩ (argT args fn.ntmps) [.code body] [] h n := by
  unfold entry
  rw [hf, om_some, hb, om_some, fNat_eq, regsOf_eq, need_ble hl]

/-- a call at plain values: it hands back the plain value v -/
theorem W_known {P : Program} {E : Env} (HE : EnvR P E) {f : Nat} {args : List V} {d n : Nat} {v : V} (hw : W E (fun r => r.v = v) (entry E f args (T.blank d) n)) {vs : List Value} (hv : concL noB args = some vs)
    {val : Value} (hr : conc noB v = some val) (hf : ∃ fn, P.funcs[f]? = some fn ∧ (fn.name == "runtime.NumGoroutine") = false ∧ fn.body.isNone = false) : KnownCall P f args v :=
  ⟨hf, vs, val, hv, hr, fun w L => (W_calls HE hw hv (HR.start w d n L)).mono fun _ _ ⟨r, hr', β', val', h1, h2, h3⟩ => by
    rw [hr'] at h1
    have := conc_mono (noB_le β') _ _ hr
    rw [h1] at this
    cases this
    exact ⟨h2, h3.below⟩⟩

/-- calls at plain values that are known give a hook -/
theorem hook_of {P : Program} {hook : Nat → List V → T O → Option V} (h : ∀ f args m v, hook f args m = some v → (∃ fn, P.funcs[f]? = some fn ∧ (fn.name == "runtime.NumGoroutine") = false ∧ fn.body.isNone = false) ∧
      (((∀ β vs, concL β args = some vs → ∃ us, concL noB args = some us) ∧ ((∃ vs, concL noB args = some vs) → KnownCall P f args v)) ∨
      ∀ W0 β n w vs, HR W0 β m n w → concL β args = some vs → ∃ val, conc β v = some val ∧ Calls P f vs.toArray w fun e w' => e = .returned val ∧ Below w.heap.size w w')) : HookR P hook := fun f args m v hv => by
  obtain ⟨h1, h2⟩ := h f args m v hv
  refine ⟨h1, fun W0 β n w vs' H hvs => ?_⟩
  rcases h2 with ⟨hp, h2⟩ | h2
  · obtain ⟨_, vs, val, a2, a3, a4⟩ := h2 (hp β vs' hvs)
    have := concL_mono (noB_le β) _ _ a2
    rw [hvs] at this
    cases this
    exact ⟨val, conc_mono (noB_le β) _ _ a3, a4 w (laid_below H.below H.laid)⟩
  · exact h2 W0 β n w vs' H hvs

/- a memory that is given: each block of the world under its own number, only read -/
section
variable (w : World)

/-- a value as it comes in -/
noncomputable def absV : Value → Option V
  | .int k n => some (.int k n)
  | .bool b => some (.bool b)
  | .string s => some (.str (s.data.toList.map UInt8.toNat))
  | .slice a 0 0 => some (.base (.slice a 0 0))
  | .slice (some ⟨b, off, none⟩) len cap => if b < w.heap.size ∧ len ≤ cap then some (.slice b off len true cap len) else none
  | _ => none

def beta0 : Beta := fun id => if id < w.heap.size then some ⟨id, 0, 0⟩ else none

theorem absV_conc {x : Value} {v : V} (h : absV w x = some v) : conc (beta0 w) v = some x := by
  unfold absV at h
  split at h
  · cases h; rfl
  · cases h; rfl
  · cases h
    rename_i s
    simp only [conc, allB_map, if_true, bytesOf_map]
  · cases h; rfl
  · rename_i b off len cap _
    split at h
    · rename_i hc
      cases h
      simp [conc, beta0, hc.1, capOf, hc.2]
    · cases h
  · cases h

noncomputable def cellsT (c : Array Value) : T V := .fn fun j => (c[j]?).bind (absV w)

noncomputable def objOf (id : Nat) : Option O := match w.heap[id]? with
  | some (.cells c _ _) => some (.ro (cellsT w c) c.size 1)
  | _ => none

noncomputable def heap0 : T O := .fn (objOf w)

theorem heap0_get (id : Nat) : (heap0 w).get id = objOf w id := rfl

theorem HR.given (L : laidP w) : HR w (beta0 w) (heap0 w) w.heap.size w where
  obj id o b h1 h2 := by
    unfold beta0 at h2
    split at h2 <;> cases h2
    rw [heap0_get] at h1
    unfold objOf at h1
    split at h1
    · rename_i c elem frz hc
      cases h1
      refine ⟨c, elem, frz, hc, fun i v hi hv => ?_⟩
      replace hv : (c[i]?).bind (absV w) = some v := hv
      rw [Option.bind_eq_some_iff] at hv
      obtain ⟨x, hx, hxv⟩ := hv
      exact ⟨x, by simpa using hx, absV_conc w hxv⟩
    · cases h1
  inj i j oi oj bi bj h1 h2 h3 h4 e := by
    unfold beta0 at h3 h4
    split at h3 <;> cases h3
    split at h4 <;> cases h4
    exact e
  dom id b h2 := by
    unfold beta0 at h2
    split at h2
    · rename_i hlt; cases h2; exact ⟨hlt, hlt⟩
    · cases h2
  below := Below.refl _ _
  laid := L
  above j hj := by
    rw [heap0_get]
    unfold objOf
    rw [Array.getElem?_eq_none hj]
  own id o b h1 hr h2 := by
    rw [heap0_get] at h1
    unfold objOf at h1
    split at h1
    · cases h1; cases hr
    · cases h1

/-- a cell of the world, read by the machine -/
theorem cell_given {b j : Nat} {x : Value} (h : w.cell? ⟨b, j, none⟩ = some x) : ∃ c : Array Value, (heap0 w).get b = some (.ro (cellsT w c) c.size 1) ∧ j < c.size ∧ (cellsT w c).get j = absV w x ∧ b < w.heap.size := by
  unfold World.cell? at h
  split at h
  · rename_i c elem frz hc
    have hj : c[j]? = some x := by simpa using h
    obtain ⟨hlt, _⟩ := Array.getElem?_eq_some_iff.1 hj
    refine ⟨c, ?_, hlt, ?_, ?_⟩
    · rw [heap0_get]; unfold objOf; rw [hc]
    · show (c[j]?).bind (absV w) = _
      rw [hj]; rfl
    · exact (Array.getElem?_eq_some_iff.1 hc).1
  · cases h
end

end Go.Mir
namespace Go.Mir
open Go Go.RowKit

/-- a region's operations in a function's code -/
def opsIn : Code → Nat → List Oper
  | .region id ops _, j => if id = j then ops.toList else []
  | .seq a b, j => opsIn a j ++ opsIn b j
  | .cond _ a b, j => opsIn a j ++ opsIn b j
  | .block _ b, j => opsIn b j
  | .loop b, j => opsIn b j
  | .rangeFunc _ _ a b, j => opsIn a j ++ opsIn b j
  | .scope b, j => opsIn b j
  | _, _ => []
def opsOf (f : Func) (j : Nat) : List Oper := match f.body with | some b => opsIn b j | none => []

/-- a drawn region's script has been checked -/
theorem W_sc {E : Env} {Q : Rz → Prop} {K : Go_ → Out} {tys : T TI} {ops : List Oper} {sc : List Sc} (h : scOk tys ops sc = true) (hw : W E Q K) : W E Q (fun go => need (scOk tys ops sc) (K go)) := by
  rw [h]; exact hw

/-- a drawn region, by its script -/
theorem W_draw {E : Env} {Q : Rz → Prop} {f sz : Nat} {d : List Nat} {rd : Option Nat} {regs : T V} {t : List It} {cs : List Fr} {h : T O} {n id : Nat} {ops : Array Oper} {r : T (List Sc)} {sc : List Sc}
    (h1 : E.scripts.get f = some r) (h2 : r.get id = some sc) (h3 : scOk E.tys ops.toList sc = true) (hw : W E Q (fun go => go ⟨f, sz, d, rd⟩ regs (.dreg ops.toList sc :: t) cs h n)) :
    W E Q (fun go => go ⟨f, sz, d, rd⟩ regs (.code (.region id ops true) :: t) cs h n) := by
  rw [W_reg1]
  simp only [h1, h2, om_some]
  rw [h3]; exact hw

/-- a loop that is left to what stands behind it -/
theorem W_loopE {E : Env} {Q : Rz → Prop} {i : Fi} {regs : T V} {t : List It} {cs : List Fr} {h : T O} {n id : Nat} {b : Code} (I : Nat → T V → T O → Nat → Prop) (J : T V → T O → Nat → Prop) (m : Nat) (h0 : I m regs h n)
    (hs : ∀ t, (∀ regs h n, J regs h n → W E Q (fun go => go i regs t cs h n)) → ∀ m regs h n, I m regs h n →
      (∀ m' regs' h' n', m' < m → I m' regs' h' n' → W E Q (fun go => go i regs' (.inLoop b :: .inBlock id :: t) cs h' n')) → W E Q (fun go => go i regs (.code b :: .inLoop b :: .inBlock id :: t) cs h n))
    (hexit : ∀ regs h n, J regs h n → W E Q (fun go => go i regs t cs h n)) :
    W E Q (fun go => go i regs (.code (.loop b) :: .inBlock id :: t) cs h n) :=
  W_loop I m h0 fun m regs h n hi ih => hs t hexit m regs h n hi ih

/-- WHAT A CALL OF f COMES TO: with these, from this memory, in whatever frame it is called -/
def Fn (E : Env) (f : Nat) (args : List V) (h : T O) (n : Nat) (Post : V → T O → Nat → Prop) : Prop :=
  ∃ fn body, E.fns.get f = some fn ∧ fn.body = some body ∧ args.length ≤ fn.ntmps ∧ ∀ (Q : Rz → Prop) (cs : List Fr), (∀ v h' n', Post v h' n' → W E Q (fun go => popK v cs h' n' go)) →
    W E Q (fun go => go ⟨f, fn.ntmps, [], none⟩ (argT args fn.ntmps) [.code body] cs h n)

section
variable {E : Env} {f : Nat} {args : List V} {h : T O} {n : Nat} {Post Post' : V → T O → Nat → Prop}

theorem Fn.mono (H : Fn E f args h n Post) (hp : ∀ v h' n', Post v h' n' → Post' v h' n') : Fn E f args h n Post' := by
  obtain ⟨fn, body, h1, h2, h3, h4⟩ := H
  exact ⟨fn, body, h1, h2, h3, fun Q cs k => h4 Q cs fun v h' n' p => k v h' n' (hp v h' n' p)⟩

/-- called from a frame -/
theorem Fn.call (H : Fn E f args h n Post) (hh : E.hook f args h = none) (hs : E.subs.get f = none) {Q : Rz → Prop} {fr : Fr} {cs : List Fr} {fin : Go_ → Kv}
    (k : ∀ v h' n', Post v h' n' → W E Q (fun go => popK v (fr :: cs) h' n' go)) : W E Q (fun go => enterK E f args fr cs h n go (fin go)) := by
  obtain ⟨fn, body, h1, h2, h3, h4⟩ := H
  have e : (fun go => enterK E f args fr cs h n go (fin go)) = fun go => go ⟨f, fn.ntmps, [], none⟩ (argT args fn.ntmps) [.code body] (fr :: cs) h n := by
    funext go; exact enterK_body hh h1 hs h2 h3
  rw [e]
  exact h4 Q (fr :: cs) k

/-- called from outside -/
theorem Fn.run (H : Fn E f args h n Post) : W E (fun r => Post r.v r.h r.n) (entry E f args h n) := by
  obtain ⟨fn, body, h1, h2, h3, h4⟩ := H
  have e : entry E f args h n = fun go => go ⟨f, fn.ntmps, [], none⟩ (argT args fn.ntmps) [.code body] [] h n := by
    funext go; exact entry_eq h1 h2 h3
  rw [e]
  refine h4 _ [] fun v h' n' p => ?_
  simp only [popK_nil]
  exact W_ok.2 p

theorem Fn.mk {fn : Func} {body : Code} {sz : Nat} (h1 : E.fns.get f = some fn) (h2 : fn.body = some body) (hz : fn.ntmps = sz) (h3 : args.length ≤ sz)
    (h4 : ∀ (Q : Rz → Prop) (cs : List Fr), (∀ v h' n', Post v h' n' → W E Q (fun go => popK v cs h' n' go)) → W E Q (fun go => go ⟨f, sz, [], none⟩ (argT args sz) [.code body] cs h n)) : Fn E f args h n Post := by
  subst hz
  exact ⟨fn, body, h1, h2, h3, h4⟩
end

/-- cells that are there -/
def Cells (h : T O) (id off len : Nat) (g : Nat → V) : Prop := ∃ o t m z, h.get id = some o ∧ (o = .cells t m z ∨ o = .ro t m z) ∧ off + len ≤ m ∧ ∀ j, j < len → t.get (off + j) = some (g j)

section
variable {h h' : T O} {id off len : Nat} {g : Nat → V}
theorem Cells.at (C : Cells h id off len g) {j a : Nat} (hj : j < len) (ha : a = off + j) {k : V → Out} : cellAt h id a k = k (g j) := by
  obtain ⟨o, t, m, z, h1, h2, h3, h4⟩ := C
  subst ha
  rw [cellAt_eq, h1, om_some]
  rcases h2 with rfl | rfl
  · rw [rCells_cells, need_ble (by omega), h4 j hj, om_some]
  · rw [rCells_ro, need_ble (by omega), h4 j hj, om_some]

theorem Cells.at3 (C : Cells h id off len g) {j a : Nat} (hj : j + 2 < len) (ha : a = off + j) {k : List V → Out} : cellsAt h id a 3 k = k [g j, g (j + 1), g (j + 2)] := by
  obtain ⟨o, t, m, z, h1, h2, h3, h4⟩ := C
  subst ha
  have e0 := h4 j (by omega)
  have e1 := h4 (j + 1) (by omega)
  have e2 := h4 (j + 2) (by omega)
  rw [cellsAt_eq, h1, om_some]
  have go : loadN t (off + j) 3 k = k [g j, g (j + 1), g (j + 2)] := by
    rw [loadN_3, Nat.add_assoc, e2, om_some, Nat.add_assoc, e1, om_some, Nat.add_zero, e0, om_some]
  rcases h2 with rfl | rfl
  · rw [rCells_cells, need_ble (by omega), go]
  · rw [rCells_ro, need_ble (by omega), go]

theorem Cells.all (C : Cells h id off len g) {a m : Nat} (ha : a = off) (hm : m = len) {k : List V → Out} : cellsAt h id a m k = k ((List.range len).map g) := by
  obtain ⟨o, t, m', z, h1, h2, h3, h4⟩ := C
  subst ha; subst hm
  have go : loadN t a m k = k ((List.range m).map g) := by
    have := loadN_of (t := t) (off := a) ((List.range m).map g) (fun j hj => by
      have hj' : j < m := by simpa using hj
      rw [h4 j hj', List.getElem?_map, List.getElem?_range hj']; rfl) (k := k)
    simpa using this
  rw [cellsAt_eq, h1, om_some]
  rcases h2 with rfl | rfl
  · rw [rCells_cells, need_ble (by omega), go]
  · rw [rCells_ro, need_ble (by omega), go]

theorem Cells.keep (C : Cells h id off len g) (hh : h'.get id = h.get id) : Cells h' id off len g := by
  obtain ⟨o, t, m, z, h1, h2⟩ := C
  exact ⟨o, t, m, z, hh.trans h1, h2⟩

theorem Cells.sub (C : Cells h id off len g) {a m : Nat} (hm : a + m ≤ len) : Cells h id (off + a) m (fun j => g (a + j)) := by
  obtain ⟨o, t, m', z, h1, h2, h3, h4⟩ := C
  exact ⟨o, t, m', z, h1, h2, by omega, fun j hj => by rw [Nat.add_assoc]; exact h4 (a + j) (by omega)⟩
end

/-- a slice of len elements of esz cells each -/
inductive Sl (h : T O) (esz : Nat) (g : Nat → V) : V → Nat → Prop
  | nil (a : Option Addr) : Sl h esz g (.base (.slice a 0 0)) 0
  | tail (id off a e k : Nat) : Sl h esz g (.tail id off a e k) 0
  | slice (id off len : Nat) (ex : Bool) (k lo : Nat) (hlo : len ≤ lo) (C : Cells h id off (len * esz) g) : Sl h esz g (.slice id off len ex k lo) len

/-- which block a value lies in -/
def vid : V → Option Nat
  | .slice id .. => some id
  | _ => none

theorem Sl.keep {h h' : T O} {esz : Nat} {g : Nat → V} {v : V} {len : Nat} (S : Sl h esz g v len) (hh : ∀ id, vid v = some id → h'.get id = h.get id) : Sl h' esz g v len := by
  cases S with
  | nil a => exact .nil a
  | tail => exact .tail ..
  | slice id off len ex k lo hlo C => exact .slice _ _ _ _ _ _ hlo (C.keep (hh id rfl))

theorem Sl.len {h : T O} {esz : Nat} {g : Nat → V} {v : V} {len : Nat} (S : Sl h esz g v len) {e : Nat} {k : V → Out} : lenIn h (.slice e) v k = k (.int .i64 (len : Int)) := by
  cases S with
  | nil => exact lenIn_nil
  | tail => exact lenIn_tail
  | slice => exact lenIn_slice

theorem Sl.congr {h : T O} {esz : Nat} {g g' : Nat → V} {v : V} {len : Nat} (S : Sl h esz g v len) (hg : ∀ j, j < len * esz → g j = g' j) : Sl h esz g' v len := by
  cases S with
  | nil a => exact .nil a
  | tail => exact .tail ..
  | slice id off len ex k lo hlo C =>
    obtain ⟨o, t, m, z, h1, h2, h3, h4⟩ := C
    exact .slice _ _ _ _ _ _ hlo ⟨o, t, m, z, h1, h2, h3, fun j hj => by rw [h4 j hj, hg j hj]⟩

/- terms -/
abbrev Tm := Int × List Nat × List Nat
def tv (x : Tm) : V := .agg [.int .i64 x.1, .str x.2.1, .str x.2.2]
/-- the cells of a row of terms -/
def rowG (l : List Tm) (j : Nat) : V :=
  let x := l.getD (j / 3) (0, [], [])
  if j % 3 = 0 then .int .i64 x.1 else if j % 3 = 1 then .str x.2.1 else .str x.2.2

theorem rowG_0 {l : List Tm} {i : Nat} : rowG l (i * 3) = .int .i64 (l.getD i (0, [], [])).1 := by
  unfold rowG
  rw [show i * 3 / 3 = i by omega, show i * 3 % 3 = 0 by omega]; rfl
theorem rowG_1 {l : List Tm} {i : Nat} : rowG l (i * 3 + 1) = .str (l.getD i (0, [], [])).2.1 := by
  unfold rowG
  rw [show (i * 3 + 1) / 3 = i by omega, show (i * 3 + 1) % 3 = 1 by omega]; rfl
theorem rowG_2 {l : List Tm} {i : Nat} : rowG l (i * 3 + 2) = .str (l.getD i (0, [], [])).2.2 := by
  unfold rowG
  rw [show (i * 3 + 2) / 3 = i by omega, show (i * 3 + 2) % 3 = 2 by omega]; rfl

/-- v is a row of these terms -/
def Row (h : T O) (v : V) (l : List Tm) : Prop := Sl h 3 (rowG l) v l.length

theorem Row.keep {h h' : T O} {v : V} {l : List Tm} (R : Row h v l) (hh : ∀ id, vid v = some id → h'.get id = h.get id) : Row h' v l := Sl.keep R hh

/-- a term of a row: its address, and what is loaded there -/
theorem Row.get {h : T O} {v : V} {l : List Tm} (R : Row h v l) {i : Nat} (hi : i < l.length) : ∃ id off ex k lo, v = .slice id off l.length ex k lo ∧ l.length ≤ lo ∧
    ∀ (kk : List V → Out), cellsAt h id (off + i * 3) 3 kk = kk [.int .i64 (l.getD i (0, [], [])).1, .str (l.getD i (0, [], [])).2.1, .str (l.getD i (0, [], [])).2.2] := by
  unfold Row at R
  generalize hL : l.length = L at R
  cases R with
  | nil => omega
  | tail => omega
  | slice id off len ex k lo hlo C =>
    refine ⟨id, off, ex, k, lo, rfl, by omega, fun kk => ?_⟩
    rw [C.at3 (j := i * 3) (by omega) rfl, rowG_0, rowG_1, rowG_2]

end Go.Mir
