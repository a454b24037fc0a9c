/- The small machine: a call that is run apart, from a state that is written out, its draws gone one by one. No statement of the program stands here. -/
import Derived.Test.YtojkinikdcelbaaGreatDoorNMirAW
set_option linter.unusedSimpArgs false
set_option linter.unusedVariables false
set_option linter.defProp false
namespace Go.Mir
open Go Go.RowKit

/- operands -/
noncomputable def eTmp (t : Nat) (regs : T V) (k : V → Out) : Out := om (T.get regs t) k
noncomputable def eConst (v : Value) (_ : T V) (k : V → Out) : Out := cv v k
noncomputable def eGlobal (_ : Nat) (_ : T V) (_ : V → Out) : Out := bad 5
noncomputable def eFunc (f : Nat) (_ : T V) (k : V → Out) : Out := k (.func f [] [])
noncomputable def evF (x : Operand) (regs : T V) (k : V → Out) : Out := Operand.rec (motive := fun _ => T V → (V → Out) → Out) eTmp eConst eGlobal eFunc x regs k
theorem evF_eq (x : Operand) (regs : T V) (k : V → Out) : evF x regs k = ev regs x k := by cases x <;> rfl

/- operations that make a value -/
section pure
variable (tys : T TI) (h : T O) (regs : T V) (k : V → Out) (kn : Out)
noncomputable def pMove (x : Operand) : Out := evF x regs k
noncomputable def pPick (c a b : Operand) : Out := evF c regs (pickK regs a b k)
noncomputable def pLoad (t : Nat) (a : Operand) : Out := evF a regs fun a => loadK tys h t a k
noncomputable def pNil (x : Operand) : Out := evF x regs (nilCheckK k)
noncomputable def pBin (op : BinOp) (t : Nat) (x y : Operand) : Out := evF x regs fun x => evF y regs fun y => binK tys op t x y k
noncomputable def pUn (op : UnOp) (x : Operand) : Out := evF x regs (unK op k)
noncomputable def pConv (s d : Nat) (x : Operand) : Out := Bool.rec (evF x regs fun x => convK tys h s d x k) kn (toBytes tys d)
noncomputable def pIface (t : Nat) (x : Operand) : Out := evF x regs (ifaceK tys t k)
noncomputable def pSlice (t : Nat) (x : Operand) (lo hi mx : Option Operand) : Out :=
  need (or (Option.isNone mx) (Option.isSome hi)) (evF x regs fun x => evO regs lo fun lo => evO regs hi fun hi => evO regs mx fun mx => sliceK tys t x lo hi mx k)
noncomputable def pFieldAddr (t : Nat) (x : Operand) (f : Nat) : Out := evF x regs (fieldAddrK tys t f k)
noncomputable def pField (t : Nat) (x : Operand) (f : Nat) : Out := evF x regs (fieldK tys t f k)
noncomputable def pIndexAddr (t : Nat) (x i : Operand) : Out := evF x regs fun x => evF i regs fun i => indexAddrK tys t x i k
noncomputable def pIndex (t : Nat) (x i : Operand) : Out := evF x regs fun x => evF i regs fun i => indexK tys t x i k
noncomputable def pLookup (t : Nat) (m x : Operand) (ok : Bool) : Out := evF m regs fun m => evF x regs fun x => lookupK tys h t m x ok k
noncomputable def pExtract (x : Operand) (i : Nat) : Out := evF x regs (extractK i k)
end pure

abbrev PF_ := T TI → T O → T V → (V → Out) → Out → Out

noncomputable def pureF (tys : T TI) (h : T O) (regs : T V) (o : Op) (k : V → Out) (kn : Out) : Out :=
  Op.rec (motive := fun _ => PF_)
    (fun x _ _ regs k _ => pMove regs k x) (fun x _ _ regs k _ => pMove regs k x) (fun c a b _ _ regs k _ => pPick regs k c a b) (fun _ _ _ _ _ kn => kn) (fun _ _ _ _ _ _ kn => kn)
    (fun t parts tys _ regs k _ => buildK tys regs t parts.toList k) (fun _ _ _ _ _ _ _ kn => kn) (fun _ _ _ _ _ _ _ _ kn => kn) (fun t a tys h regs k _ => pLoad tys h regs k t a) (fun _ _ _ _ _ _ _ kn => kn)
    (fun _ _ _ _ _ kn => kn) (fun _ _ _ _ _ kn => kn) (fun x _ _ regs k _ => pNil regs k x) (fun op t x y _ tys _ regs k _ => pBin tys regs k op t x y) (fun op _ x _ _ regs k _ => pUn regs k op x)
    (fun s d x tys h regs k kn => pConv tys h regs k kn s d x) (fun _ _ _ _ _ _ kn => kn) (fun t x tys _ regs k _ => pIface tys regs k t x) (fun fn first cap _ _ regs k _ => makeFuncK regs fn first cap k)
    (fun _ _ _ _ _ _ kn => kn) (fun _ _ _ _ _ _ kn => kn) (fun _ _ _ _ _ _ _ kn => kn) (fun t x lo hi mx tys _ regs k _ => pSlice tys regs k t x lo hi mx) (fun t x f tys _ regs k _ => pFieldAddr tys regs k t x f)
    (fun t x f tys _ regs k _ => pField tys regs k t x f) (fun t x i tys _ regs k _ => pIndexAddr tys regs k t x i) (fun t x i tys _ regs k _ => pIndex tys regs k t x i) (fun t m x ok tys h regs k _ => pLookup tys h regs k t m x ok)
    (fun _ _ _ _ _ _ _ _ kn => kn) (fun _ _ _ _ _ _ _ kn => kn) (fun _ _ _ _ _ _ _ _ kn => kn) (fun _ _ _ _ _ _ kn => kn) (fun _ _ _ _ _ _ kn => kn) (fun _ _ _ _ _ kn => kn) (fun _ _ _ _ _ _ _ _ kn => kn)
    (fun x i _ _ regs k _ => pExtract regs k x i) (fun c tys h regs k kn => pureC tys h regs c k kn) (fun _ _ _ _ _ kn => kn) (fun _ _ _ _ _ kn => kn) (fun _ _ _ _ _ kn => kn) (fun _ _ _ _ _ _ kn => kn) (fun _ _ _ _ _ _ _ kn => kn) (fun _ _ _ _ _ _ kn => kn)
    o tys h regs k kn

theorem pureF_eq (tys : T TI) (h : T O) (regs : T V) (o : Op) (k : V → Out) (kn : Out) : pureF tys h regs o k kn = pureK tys h regs o k kn := by
  cases o <;> first
    | rfl
    | (show pMove _ _ _ = _; simp only [pMove, evF_eq]; rfl)
    | (show pPick _ _ _ _ _ = _; simp only [pPick, evF_eq]; rfl)
    | (show pLoad _ _ _ _ _ _ = _; simp only [pLoad, evF_eq]; rfl)
    | (show pNil _ _ _ = _; simp only [pNil, evF_eq]; rfl)
    | (show pBin _ _ _ _ _ _ _ = _; simp only [pBin, evF_eq]; rfl)
    | (show pUn _ _ _ _ = _; simp only [pUn, evF_eq]; rfl)
    | (show pConv _ _ _ _ _ _ _ _ = _; simp only [pConv, evF_eq]; rfl)
    | (show pIface _ _ _ _ _ = _; simp only [pIface, evF_eq]; rfl)
    | (show pSlice _ _ _ _ _ _ _ _ = _; simp only [pSlice, evF_eq]; rfl)
    | (show pFieldAddr _ _ _ _ _ _ = _; simp only [pFieldAddr, evF_eq]; rfl)
    | (show pField _ _ _ _ _ _ = _; simp only [pField, evF_eq]; rfl)
    | (show pIndexAddr _ _ _ _ _ _ = _; simp only [pIndexAddr, evF_eq]; rfl)
    | (show pIndex _ _ _ _ _ _ = _; simp only [pIndex, evF_eq]; rfl)
    | (show pLookup _ _ _ _ _ _ _ _ = _; simp only [pLookup, evF_eq]; rfl)
    | (show pExtract _ _ _ _ = _; simp only [pExtract, evF_eq]; rfl)

/- operations that make a block -/
abbrev AF_ := T TI → T V → (O → (Nat → V) → Out) → Out → Out
noncomputable def aAlloc (t : Nat) (tys : T TI) (_ : T V) (k : O → (Nat → V) → Out) (_ : Out) : Out := om (tys.get t) fun ti => blockK ti.zero ti.size fun o => k o vPtr
noncomputable def aBox (x : Operand) (regs : T V) (k : O → (Nat → V) → Out) : Out := evF x regs fun v => fNat (List.length (cellsOf v)) fun n => blockK (cellsOf v) n fun o => k o vPtr
noncomputable def aLit (t len : Nat) (parts : Array (Nat × Operand)) (tys : T TI) (regs : T V) (k : O → (Nat → V) → Out) : Out := sliceTy tys t fun te => buildSliceK regs te len parts.toList k
noncomputable def aSlow (o : Op) (tys : T TI) (regs : T V) (k : O → (Nat → V) → Out) (kn : Out) : Out := allocK tys regs o k kn

noncomputable def allocF (tys : T TI) (regs : T V) (o : Op) (k : O → (Nat → V) → Out) (kn : Out) : Out :=
  Op.rec (motive := fun _ => AF_)
    (fun _ _ _ _ kn => kn) (fun _ _ _ _ kn => kn) (fun _ _ _ _ _ _ kn => kn) aAlloc (fun _ x _ regs k _ => aBox x regs k)
    (fun _ _ _ _ _ kn => kn) (fun t len parts tys regs k _ => aLit t len parts tys regs k) (fun _ _ _ _ _ _ _ kn => kn) (fun _ _ _ _ _ kn => kn) (fun _ _ _ _ _ _ kn => kn)
    (fun _ _ _ _ kn => kn) (fun _ _ _ _ kn => kn) (fun _ _ _ _ kn => kn) (fun _ _ _ _ _ _ _ _ kn => kn) (fun _ _ _ _ _ _ kn => kn)
    (fun s d x => aSlow (.convert s d x)) (fun _ _ _ _ _ kn => kn) (fun _ _ _ _ _ kn => kn) (fun _ _ _ _ _ _ kn => kn)
    (fun t r => aSlow (.makeMap t r)) (fun _ _ _ _ _ kn => kn) (fun t l c => aSlow (.makeSlice t l c)) (fun _ _ _ _ _ _ _ _ kn => kn) (fun _ _ _ _ _ _ kn => kn)
    (fun _ _ _ _ _ _ kn => kn) (fun _ _ _ _ _ _ kn => kn) (fun _ _ _ _ _ _ kn => kn) (fun _ _ _ _ _ _ _ kn => kn)
    (fun _ _ _ _ _ _ _ kn => kn) (fun _ _ _ _ _ _ kn => kn) (fun _ _ _ _ _ _ _ kn => kn) (fun _ _ _ _ _ kn => kn) (fun _ _ _ _ _ kn => kn) (fun _ _ _ _ kn => kn) (fun _ _ _ _ _ _ _ kn => kn)
    (fun _ _ _ _ _ kn => kn) (fun _ _ _ _ kn => kn) (fun _ _ _ _ kn => kn) (fun _ _ _ _ kn => kn) (fun _ _ _ _ kn => kn) (fun _ _ _ _ _ kn => kn) (fun _ _ _ _ _ _ kn => kn) (fun _ _ _ _ _ kn => kn)
    o tys regs k kn

theorem allocF_eq (tys : T TI) (regs : T V) (o : Op) (k : O → (Nat → V) → Out) (kn : Out) : allocF tys regs o k kn = allocK tys regs o k kn := by
  cases o <;> first
    | rfl
    | (show aBox _ _ _ = _; simp only [aBox, evF_eq]; rfl)

/- operations of the row -/
abbrev CF_ := Env → Fr → T V → List Fr → T O → Nat → Go_ → Kv → Out
noncomputable def cStore (t : Nat) (a x : Operand) (E : Env) (_ : Fr) (regs : T V) (_ : List Fr) (h : T O) (n : Nat) (_ : Go_) (fin : Kv) : Out := evF a regs fun a => evF x regs fun x => storeK E.tys h t a x fun h => fin undefV h n
noncomputable def cCall (c : Call) (E : Env) (fr : Fr) (regs : T V) (cs : List Fr) (h : T O) (n : Nat) (go : Go_) (fin : Kv) : Out := chainC E c fr regs cs h n go fin
noncomputable def cSlow (o : Op) (E : Env) (fr : Fr) (regs : T V) (cs : List Fr) (h : T O) (n : Nat) (go : Go_) (fin : Kv) : Out := chainK E o fr regs cs h n go fin

noncomputable def chainF (E : Env) (o : Op) (fr : Fr) (regs : T V) (cs : List Fr) (h : T O) (n : Nat) (go : Go_) (fin : Kv) : Out :=
  Op.rec (motive := fun _ => CF_)
    (fun x => cSlow (.move x)) (fun x => cSlow (.assign x)) (fun c a b => cSlow (.pick c a b)) (fun t => cSlow (.alloc t)) (fun t x => cSlow (.box t x))
    (fun t p => cSlow (.build t p)) (fun t l p => cSlow (.buildSlice t l p)) (fun t m x v => cSlow (.insert t m x v)) (fun t a => cSlow (.load t a)) cStore
    (fun g => cSlow (.ready g)) (fun g => cSlow (.waits g)) (fun x => cSlow (.nilCheck x)) (fun a b c d e => cSlow (.binOp a b c d e)) (fun a b c => cSlow (.unOp a b c))
    (fun a b c => cSlow (.convert a b c)) (fun a b => cSlow (.sliceToArrayPointer a b)) (fun a b => cSlow (.makeInterface a b)) (fun a b c => cSlow (.makeFunc a b c))
    (fun a b => cSlow (.makeMap a b)) (fun a b => cSlow (.makeChan a b)) (fun a b c => cSlow (.makeSlice a b c)) (fun a b c d e => cSlow (.slice a b c d e)) (fun a b c => cSlow (.fieldAddr a b c))
    (fun a b c => cSlow (.field a b c)) (fun a b c => cSlow (.indexAddr a b c)) (fun a b c => cSlow (.index a b c)) (fun a b c d => cSlow (.lookup a b c d))
    (fun a b c d => cSlow (.mapUpdate a b c d)) (fun a b c => cSlow (.mapEntry a b c)) (fun a b c d => cSlow (.entryStore a b c d)) (fun a b => cSlow (.range a b)) (fun a b => cSlow (.next a b)) (fun a => cSlow (.entry a)) (fun a b c d => cSlow (.typeAssert a b c d))
    (fun a b => cSlow (.extract a b)) cCall (fun a => cSlow (.go a)) (fun a => cSlow (.defer a)) (fun a => cSlow (.panic a)) (fun a b => cSlow (.send a b)) (fun a b c => cSlow (.recv a b c)) (fun a b => cSlow (.select a b))
    o E fr regs cs h n go fin

theorem chainF_eq (E : Env) (o : Op) (fr : Fr) (regs : T V) (cs : List Fr) (h : T O) (n : Nat) (go : Go_) (fin : Kv) : chainF E o fr regs cs h n go fin = chainK E o fr regs cs h n go fin := by
  cases o <;> first
    | rfl
    | (simp only [chainF, cStore, evF_eq]; rfl)

/- a place is put -/
noncomputable def dNone (regs : T V) (_ : Nat) (_ : V) (k : T V → Out) : Out := k regs
noncomputable def dSome (d : Nat) (regs : T V) (sz : Nat) (v : V) (k : T V → Out) : Out := need (Nat.ble (Nat.succ d) sz) (T.setK regs d (some v) (bad 131) k)
noncomputable def setDF (dst : Option Nat) (regs : T V) (sz : Nat) (v : V) (k : T V → Out) : Out := Option.rec (motive := fun _ => T V → Nat → V → (T V → Out) → Out) dNone dSome dst regs sz v k
theorem setDF_eq (dst : Option Nat) (regs : T V) (sz : Nat) (v : V) (k : T V → Out) : setDF dst regs sz v k = setD regs dst sz v k := by cases dst <;> rfl

/- a region in one go -/
structure Cx where
  E : Env
  i : Fi
  t : List It
  cs : List Fr
  go : Go_
  all : List Oper

abbrev Rg := T V → T O → Nat → Out

noncomputable def doneF (c : Cx) (o : Oper) (ih : Rg) (regs : T V) (v : V) (h : T O) (n : Nat) : Out := setDF o.dst regs c.i.sz v fun regs => ih regs h n
noncomputable def doneP (c : Cx) (o : Oper) (ih : Rg) (regs : T V) (h : T O) (n : Nat) (v : V) : Out := doneF c o ih regs v h n
noncomputable def doneA (c : Cx) (o : Oper) (ih : Rg) (regs : T V) (h : T O) (n : Nat) (ob : O) (vf : Nat → V) : Out := newO h n ob fun h n' => doneF c o ih regs (vf n) h n'
noncomputable def opB3 (c : Cx) (o : Oper) (rem : List Oper) (ih : Rg) (regs : T V) (h : T O) (n : Nat) : Out :=
  chainF c.E o.op ⟨c.i, regs, .reg c.all (o :: rem) :: c.t⟩ regs c.cs h n c.go (doneF c o ih regs)
noncomputable def opB2 (c : Cx) (o : Oper) (rem : List Oper) (ih : Rg) (regs : T V) (h : T O) (n : Nat) : Out :=
  allocF c.E.tys regs o.op (doneA c o ih regs h n) (opB3 c o rem ih regs h n)
noncomputable def opB (c : Cx) (o : Oper) (rem : List Oper) (ih : Rg) (regs : T V) (h : T O) (n : Nat) : Out :=
  pureF c.E.tys h regs o.op (doneP c o ih regs h n) (opB2 c o rem ih regs h n)

noncomputable def gNone (c : Cx) (o : Oper) (rem : List Oper) (ih : Rg) (regs : T V) (h : T O) (n : Nat) : Out := opB c o rem ih regs h n
noncomputable def gSome (p : Nat × Bool) (c : Cx) (o : Oper) (rem : List Oper) (ih : Rg) (regs : T V) (h : T O) (n : Nat) : Out :=
  wantK c.all regs (some p) fun b => Bool.rec (doneF c o ih regs undefV h n) (opB c o rem ih regs h n) b
noncomputable def regOp (c : Cx) (o : Oper) (rem : List Oper) (ih : Rg) (regs : T V) (h : T O) (n : Nat) : Out :=
  Option.rec (motive := fun _ => Cx → Oper → List Oper → Rg → T V → T O → Nat → Out) gNone gSome o.guard c o rem ih regs h n
noncomputable def regEnd (c : Cx) (regs : T V) (h : T O) (n : Nat) : Out := c.go c.i regs c.t c.cs h n
noncomputable def regF (c : Cx) (rem : List Oper) : Rg := List.rec (motive := fun _ => Rg) (regEnd c) (regOp c) rem

theorem regF_cons (c : Cx) (o : Oper) (rem : List Oper) (regs : T V) (h : T O) (n : Nat) : regF c (o :: rem) regs h n =
    wantK c.all regs o.guard (fun b => Bool.rec (setD regs o.dst c.i.sz undefV fun regs => regF c rem regs h n)
      (opAll c.E o.op ⟨c.i, regs, .reg c.all (o :: rem) :: c.t⟩ regs c.cs h n c.go fun v h n => setD regs o.dst c.i.sz v fun regs => regF c rem regs h n) b) := by
  have hop : opB c o rem (regF c rem) regs h n = opAll c.E o.op ⟨c.i, regs, .reg c.all (o :: rem) :: c.t⟩ regs c.cs h n c.go fun v h n => setD regs o.dst c.i.sz v fun regs => regF c rem regs h n := by
    have hd : ∀ v h n, doneF c o (regF c rem) regs v h n = setD regs o.dst c.i.sz v fun regs => regF c rem regs h n := fun v h n => by unfold doneF; rw [setDF_eq]
    have h1 : doneP c o (regF c rem) regs h n = fun v => setD regs o.dst c.i.sz v fun regs => regF c rem regs h n := by funext v; exact hd v h n
    have h2 : doneA c o (regF c rem) regs h n = fun ob vf => newO h n ob fun h n' => setD regs o.dst c.i.sz (vf n) fun regs => regF c rem regs h n' := by
      funext ob vf; unfold doneA; congr 1; funext h n'; exact hd _ h n'
    have h3 : doneF c o (regF c rem) regs = fun v h n => setD regs o.dst c.i.sz v fun regs => regF c rem regs h n := by funext v h n; exact hd v h n
    unfold opB opB2 opB3
    rw [pureF_eq, allocF_eq, chainF_eq, h1, h2, h3]
    rfl
  have hrec : regF c (o :: rem) regs h n = regOp c o rem (regF c rem) regs h n := rfl
  rw [hrec]
  obtain ⟨dst, op, ty, pos, after, guard⟩ := o
  cases guard with
  | none => exact hop
  | some p =>
    show gSome p c _ rem (regF c rem) regs h n = _
    unfold gSome
    rw [hop]
    unfold doneF
    rw [setDF_eq]

/- code in one go -/
structure Sx where
  E : Env
  i : Fi
  regs : T V
  cs : List Fr
  h : T O
  n : Nat
  go : Go_

abbrev Cd := List It → Sx → Out

noncomputable def kGo (t : List It) (s : Sx) : Out := s.go s.i s.regs t s.cs s.h s.n
noncomputable def kSkip (t : List It) (s : Sx) : Out := kGo t s
noncomputable def kReg (ops : Array Oper) (t : List It) (s : Sx) : Out := regF ⟨s.E, s.i, t, s.cs, s.go, ops.toList⟩ ops.toList s.regs s.h s.n
noncomputable def kDraw (id : Nat) (ops : Array Oper) (t : List It) (s : Sx) : Out := stRegion s.E s.i s.regs t s.cs s.h s.n s.go id ops true
noncomputable def kRegion (id : Nat) (ops : Array Oper) (draw : Bool) (t : List It) (s : Sx) : Out := Bool.rec (kReg ops t s) (kDraw id ops t s) draw
noncomputable def kSeq (_ b : Code) (ia _ : Cd) (t : List It) (s : Sx) : Out := ia (.code b :: t) s
noncomputable def kCond (c : Operand) (_ _ : Code) (ia ib : Cd) (t : List It) (s : Sx) : Out := evF c s.regs (condK (ia t s) (ib t s))
noncomputable def kBlock (id : Nat) (_ : Code) (ib : Cd) (t : List It) (s : Sx) : Out := ib (.inBlock id :: t) s
noncomputable def kLoop (b : Code) (ib : Cd) (t : List It) (s : Sx) : Out := ib (.inLoop b :: t) s
noncomputable def kScope (b : Code) (ib : Cd) (t : List It) (s : Sx) : Out := ib (.inScope b :: t) s
noncomputable def kSlow (c : Code) (t : List It) (s : Sx) : Out := stCode s.E s.i s.regs t s.cs s.h s.n s.go c

/-- a piece of code, as far as it goes without a call -/
noncomputable def codeF (c : Code) : Cd :=
  Code.rec (motive := fun _ => Cd) kSkip kRegion kSeq kCond kBlock kLoop (fun f ps a b _ _ => kSlow (.rangeFunc f ps a b)) (fun id => kSlow (.exit id)) kScope (fun _ => kSkip) (fun l => kSlow (.goto l)) (kSlow .ret) (fun w => kSlow (.refuse w)) c

/- what stands ahead -/
noncomputable def iReg (all rem : List Oper) (t : List It) (s : Sx) : Out := regF ⟨s.E, s.i, t, s.cs, s.go, all⟩ rem s.regs s.h s.n
noncomputable def iLoop (b : Code) (t : List It) (s : Sx) : Out := codeF b (.inLoop b :: t) s
noncomputable def iPop (t : List It) (s : Sx) : Out := kGo t s
noncomputable def iSlow (it : It) (t : List It) (s : Sx) : Out := step s.E s.i s.regs (it :: t) s.cs s.h s.n s.go

noncomputable def itF (it : It) : Cd :=
  It.rec (motive := fun _ => Cd) iReg codeF (fun _ => iPop) iLoop (fun _ => iPop) (fun all sc => iSlow (.dreg all sc)) (fun l => iSlow (.inRange l)) (fun l => iSlow (.endRange l)) (iSlow .beginRound) (iSlow .fin) it

noncomputable def fNil (s : Sx) : Out := leaveK none s.i s.regs s.cs s.h s.n s.go

noncomputable def stepF (E : Env) (i : Fi) (regs : T V) (todo : List It) (cs : List Fr) (h : T O) (n : Nat) (go : Go_) : Out :=
  List.rec (motive := fun _ => Sx → Out) fNil (fun it t _ => itF it t) todo ⟨E, i, regs, cs, h, n, go⟩

noncomputable def execF (E : Env) (fuel : Nat) : Go_ :=
  Nat.rec (motive := fun _ => Go_) (fun i regs todo _ _ _ => .bad 0 (some ⟨i, regs, todo⟩)) (fun _ ih i regs todo cs h n => stepF E i regs todo cs h n ih) fuel

noncomputable def runF (E : Env) (fuel : Nat) (f : Nat) (args : List V) (h : T O) (n : Nat) : Out :=
  om (E.fns.get f) fun fn => om fn.body fun body => fNat fn.ntmps fun sz => regsOf args sz fun regs => execF E fuel ⟨f, sz, [], none⟩ regs [.code body] [] h n

section
variable {P : Program} {E : Env} {W0 : World} {f0 : Nat} {cs0 : List Frame} {B0 : Bs} {r : Rz} {go : Go_} (G : Good P E.tys W0 f0 cs0 B0 go) (HE : EnvR P E)
variable {i : Fi} {t : List It} {cs : List Fr} {lo : Nat}

include G HE in
theorem regF_ok {all : List Oper} : ∀ (rem : List Oper) {r : Rz} {regs : T V} {h : T O} {n : Nat} {β : Beta} {F : Frame} {CS : List Frame} {w : World}, regF ⟨E, i, t, cs, go, all⟩ rem regs h n = .ok r →
    Sim P E.tys W0 f0 cs0 B0 lo β i regs (.reg all rem :: t) cs h n F CS w → Ends P W0 f0 cs0 B0 r F CS w
  | [], r, regs, h, n, β, F, CS, w, e, S => stReg_ok G HE (rem := []) e S
  | o :: rem, r, regs, h, n, β, F, CS, w, e, S => by
    obtain ⟨HH, ⟨hfi, hB⟩, HS, hlo⟩ := S
    obtain ⟨hm, hT, hR⟩ : F.mode = .run ∧ TodoR β (.reg all (o :: rem) :: t) F.todo ∧ RegsR β regs F.tmps no := hB
    obtain ⟨b, TT, hF, ⟨ops, L, rfl, ha, hL⟩, hT'⟩ := hT.cons
    cases L with
    | nil => simp at hL
    | cons j L =>
      simp only [List.map_cons, List.cons.injEq] at hL
      have hfinish : ∀ val, F.finish val = { F with tmps := putT F.tmps o.dst val, todo := .inRegion ops L :: TT } := fun val => finish_region hF (by rw [hL.1]; rfl) val
      have hcont : ∀ v h' n' r, setD regs o.dst i.sz v (fun regs => regF ⟨E, i, t, cs, go, all⟩ rem regs h' n') = .ok r → ∀ β' val w', HR W0 β' h' n' w' → More β h n β' h' n' → conc β' v = some val → Ends P W0 f0 cs0 B0 r (F.finish val) CS w' := by
        intro v h' n' r e' β' val w' H' M hv
        replace e' := setD_ok e'; obtain ⟨regs', e', hsz, hg⟩ := e'
        rw [hfinish]
        have hw1 := hfi.sz
        refine regF_ok rem e' (w := w') (β := β') ⟨H', ⟨⟨hfi.fn, by simp [putT_size, hfi.sz], hfi.kind, hfi.defers.mono M.le, hfi.round.mono M.le⟩, bodyR_of hm ⟨⟨ops, L, rfl, ha, hL.2⟩, hT'.mono M.le⟩ ?_⟩, HS.more (M.toB hlo), Nat.le_trans hlo M.lt⟩
        exact (hR.mono M.le).set hg hv (fun d hd => by have := hsz d hd; simp only at this hw1; omega) fun t ht => ht.elim
      rw [regF_cons] at e
      replace e := wantK_ok e; obtain ⟨b, hb, e⟩ := e
      have hw : Region.wanted o (yielded ops F.tmps) = b := wanted_ok ha hb fun j w oj d v _ _ _ hv => hR d v hv (fun x => x)
      rcases rec_ok e with ⟨rfl, e⟩ | ⟨rfl, e⟩
      · exact region_op G HE e HH ⟨hfi, hm, hT, hR⟩ HS hlo hF hL.1 rfl hw (fun x _ => agree_eval hR fun t _ h => h) hcont
      · exact (hcont _ _ _ _ e β undef w HH (More.refl _ _ _) (conc_undef β)).step (r_opSkip hm hF hL.1 hw)

include G HE in
theorem codeF_ok : ∀ (c : Code) {t : List It} {regs : T V} {h : T O} {n : Nat} {β : Beta} {F : Frame} {CS : List Frame} {w : World}, codeF c t ⟨E, i, regs, cs, h, n, go⟩ = .ok r →
    Sim P E.tys W0 f0 cs0 B0 lo β i regs (.code c :: t) cs h n F CS w → Ends P W0 f0 cs0 B0 r F CS w := by
  intro c
  induction c with
  | skip => exact fun e S => code_ok G HE (c := .skip) e S fun _ _ h => by cases h
  | label l => exact fun e S => code_ok G HE (c := .label l) e S fun _ _ h => by cases h
  | goto l => exact fun e S => code_ok G HE (c := .goto l) e S fun _ _ h => by cases h
  | ret => exact fun e S => code_ok G HE (c := .ret) e S fun _ _ h => by cases h
  | refuse l => exact fun e S => code_ok G HE (c := .refuse l) e S fun _ _ h => by cases h
  | exit l => exact fun e S => code_ok G HE (c := .exit l) e S fun _ _ h => by cases h
  | rangeFunc f ps a b _ _ => exact fun e S => code_ok G HE (c := .rangeFunc f ps a b) e S fun _ _ h => by cases h
  | region id ops draw =>
    intro t regs h n β F CS w e S
    cases draw with
    | true => exact draw_ok G HE e S
    | false =>
      obtain ⟨HH, ⟨hfi, hB⟩, HS, hlo⟩ := S
      obtain ⟨hm, hT, hR⟩ : F.mode = .run ∧ TodoR β (.code (.region id ops false) :: t) F.todo ∧ RegsR β regs F.tmps no := hB
      obtain ⟨b', TT, hF, rfl, hT'⟩ := hT.cons
      have hE : Ends P W0 f0 cs0 B0 r { F with todo := .inRegion ops (List.range ops.size) :: TT } CS w :=
        regF_ok G HE ops.toList (all := ops.toList) (t := t) (lo := lo) (β := β) e ⟨HH, ⟨⟨hfi.fn, hfi.sz, hfi.kind, hfi.defers, hfi.round⟩, bodyR_of hm ⟨⟨ops, _, rfl, rfl, range_map⟩, hT'⟩ hR⟩, HS, hlo⟩
      exact hE.step (r_region hm hF)
  | seq a b iha _ =>
    intro t regs h n β F CS w e S
    obtain ⟨HH, ⟨hfi, hB⟩, HS, hlo⟩ := S
    obtain ⟨hm, hT, hR⟩ : F.mode = .run ∧ TodoR β (.code (.seq a b) :: t) F.todo ∧ RegsR β regs F.tmps no := hB
    obtain ⟨b', TT, hF, rfl, hT'⟩ := hT.cons
    have hE : Ends P W0 f0 cs0 B0 r { F with todo := .code a :: .code b :: TT } CS w :=
      iha (t := .code b :: t) e ⟨HH, ⟨⟨hfi.fn, hfi.sz, hfi.kind, hfi.defers, hfi.round⟩, bodyR_of hm ⟨rfl, rfl, hT'⟩ hR⟩, HS, hlo⟩
    exact hE.step (r_seq hm hF)
  | cond c a b iha ihb =>
    intro t regs h n β F CS w e S
    obtain ⟨HH, ⟨hfi, hB⟩, HS, hlo⟩ := S
    obtain ⟨hm, hT, hR⟩ : F.mode = .run ∧ TodoR β (.code (.cond c a b) :: t) F.todo ∧ RegsR β regs F.tmps no := hB
    obtain ⟨b', TT, hF, rfl, hT'⟩ := hT.cons
    replace e : evF c regs (condK (codeF a t ⟨E, i, regs, cs, h, n, go⟩) (codeF b t ⟨E, i, regs, cs, h, n, go⟩)) = .ok r := e
    rw [evF_eq] at e
    replace e := ev_ok e; obtain ⟨v, e, hv⟩ := e
    have hc := hv β F.eval (agree_eval hR fun _ _ h => h)
    unfold condK at e
    split at e
    · rename_i r'
      have hc : F.eval c = .bool r' := by simpa [conc] using hc.symm
      cases r' with
      | true =>
        have hE : Ends P W0 f0 cs0 B0 r { F with todo := .code a :: TT } CS w := iha (t := t) e ⟨HH, ⟨⟨hfi.fn, hfi.sz, hfi.kind, hfi.defers, hfi.round⟩, bodyR_of hm ⟨rfl, hT'⟩ hR⟩, HS, hlo⟩
        exact hE.step (r_cond hm hF hc)
      | false =>
        have hE : Ends P W0 f0 cs0 B0 r { F with todo := .code b :: TT } CS w := ihb (t := t) e ⟨HH, ⟨⟨hfi.fn, hfi.sz, hfi.kind, hfi.defers, hfi.round⟩, bodyR_of hm ⟨rfl, hT'⟩ hR⟩, HS, hlo⟩
        exact hE.step (r_cond hm hF hc)
    · exact (bad_ne e).elim
  | block id b ih =>
    intro t regs h n β F CS w e S
    obtain ⟨HH, ⟨hfi, hB⟩, HS, hlo⟩ := S
    obtain ⟨hm, hT, hR⟩ : F.mode = .run ∧ TodoR β (.code (.block id b) :: t) F.todo ∧ RegsR β regs F.tmps no := hB
    obtain ⟨b', TT, hF, rfl, hT'⟩ := hT.cons
    have hE : Ends P W0 f0 cs0 B0 r { F with todo := .code b :: .inBlock id :: TT } CS w :=
      ih (t := .inBlock id :: t) e ⟨HH, ⟨⟨hfi.fn, hfi.sz, hfi.kind, hfi.defers, hfi.round⟩, bodyR_of hm ⟨rfl, rfl, hT'⟩ hR⟩, HS, hlo⟩
    exact hE.step (r_block hm hF)
  | loop b ih =>
    intro t regs h n β F CS w e S
    obtain ⟨HH, ⟨hfi, hB⟩, HS, hlo⟩ := S
    obtain ⟨hm, hT, hR⟩ : F.mode = .run ∧ TodoR β (.code (.loop b) :: t) F.todo ∧ RegsR β regs F.tmps no := hB
    obtain ⟨b', TT, hF, rfl, hT'⟩ := hT.cons
    have hE : Ends P W0 f0 cs0 B0 r { F with todo := .code b :: .inLoop b :: TT } CS w :=
      ih (t := .inLoop b :: t) e ⟨HH, ⟨⟨hfi.fn, hfi.sz, hfi.kind, hfi.defers, hfi.round⟩, bodyR_of hm ⟨rfl, rfl, hT'⟩ hR⟩, HS, hlo⟩
    exact hE.step (r_loop hm hF)
  | scope b ih =>
    intro t regs h n β F CS w e S
    obtain ⟨HH, ⟨hfi, hB⟩, HS, hlo⟩ := S
    obtain ⟨hm, hT, hR⟩ : F.mode = .run ∧ TodoR β (.code (.scope b) :: t) F.todo ∧ RegsR β regs F.tmps no := hB
    obtain ⟨b', TT, hF, rfl, hT'⟩ := hT.cons
    have hE : Ends P W0 f0 cs0 B0 r { F with todo := .code b :: .inScope b :: TT } CS w :=
      ih (t := .inScope b :: t) e ⟨HH, ⟨⟨hfi.fn, hfi.sz, hfi.kind, hfi.defers, hfi.round⟩, bodyR_of hm ⟨rfl, rfl, hT'⟩ hR⟩, HS, hlo⟩
    exact hE.step (r_scope hm hF)

include G HE in
theorem stepF_ok : Good P E.tys W0 f0 cs0 B0 (fun i regs todo cs h n => stepF E i regs todo cs h n go) := by
  intro r i regs todo cs h n e β F CS w lo S
  cases todo with
  | nil => exact step_ok G HE _ _ _ [] _ _ _ (show step E i regs [] cs h n go = .ok r from e) β F CS w lo S
  | cons it t =>
    cases it with
    | reg all rem => exact regF_ok G HE rem e S
    | code c => exact codeF_ok G HE c e S
    | inBlock l => exact step_ok G HE _ _ _ (.inBlock l :: t) _ _ _ (show step E i regs (.inBlock l :: t) cs h n go = .ok r from e) β F CS w lo S
    | inScope l => exact step_ok G HE _ _ _ (.inScope l :: t) _ _ _ (show step E i regs (.inScope l :: t) cs h n go = .ok r from e) β F CS w lo S
    | inLoop body =>
      obtain ⟨HH, ⟨hfi, hB⟩, HS, hlo⟩ := S
      obtain ⟨hm, hT, hR⟩ : F.mode = .run ∧ TodoR β (.inLoop body :: t) F.todo ∧ RegsR β regs F.tmps no := hB
      obtain ⟨b', TT, hF, rfl, hT'⟩ := hT.cons
      have hE : Ends P W0 f0 cs0 B0 r { F with todo := .code body :: .inLoop body :: TT } CS w :=
        codeF_ok G HE body (t := .inLoop body :: t) e ⟨HH, ⟨⟨hfi.fn, hfi.sz, hfi.kind, hfi.defers, hfi.round⟩, bodyR_of hm ⟨rfl, rfl, hT'⟩ hR⟩, HS, hlo⟩
      exact hE.step (r_inLoop hm hF)
    | dreg all sc => exact step_ok G HE _ _ _ (.dreg all sc :: t) _ _ _ (show step E i regs (.dreg all sc :: t) cs h n go = .ok r from e) β F CS w lo S
    | inRange l => exact step_ok G HE _ _ _ (.inRange l :: t) _ _ _ (show step E i regs (.inRange l :: t) cs h n go = .ok r from e) β F CS w lo S
    | endRange l => exact step_ok G HE _ _ _ (.endRange l :: t) _ _ _ (show step E i regs (.endRange l :: t) cs h n go = .ok r from e) β F CS w lo S
    | beginRound => exact step_ok G HE _ _ _ (.beginRound :: t) _ _ _ (show step E i regs (.beginRound :: t) cs h n go = .ok r from e) β F CS w lo S
    | fin => exact step_ok G HE _ _ _ (.fin :: t) _ _ _ (show step E i regs (.fin :: t) cs h n go = .ok r from e) β F CS w lo S

include HE in
theorem execF_ok : ∀ fuel, Good P E.tys W0 f0 cs0 B0 (execF E fuel)
  | 0 => fun r i regs todo cs h n e => by cases e
  | fuel + 1 => stepF_ok (execF_ok fuel) HE
end

/-- WHAT A RUN OF THE FAST ONE SHOWS -/
theorem runF_calls {P : Program} {E : Env} (HE : EnvR P E) {fuel f : Nat} {args : List V} {d n : Nat} {r : Rz} (e : runF E fuel f args (T.blank d) n = .ok r) {vs : List Value} (hv : concL noB args = some vs)
    {val : Value} (hr : ∀ β v, conc β r.v = some v → v = val) (W : World) (L : laidP W) : Calls P f vs.toArray W fun e w' => e = .returned val ∧ Below W.heap.size W w' :=
  good_calls HE (fun _ _ _ _ => execF_ok HE fuel) e hv hr W L

theorem runF_fn {E : Env} {P : Program} (HE : EnvR P E) {fuel f : Nat} {args : List V} {d n : Nat} {r : Rz} (e : runF E fuel f args (T.blank d) n = .ok r) :
    ∃ fn, P.funcs[f]? = some fn ∧ (fn.name == "runtime.NumGoroutine") = false ∧ fn.body.isNone = false := by
  replace e := om_ok e; obtain ⟨fn, hfn, e⟩ := e
  replace e := om_ok e; obtain ⟨body, hb, e⟩ := e
  obtain ⟨h1, h2⟩ := HE.fns f fn hfn
  exact ⟨fn, h1, h2, by rw [hb]; rfl⟩

/-- does a run end in 'v'? -/
noncomputable def isV (o : Out) (v : V) : Bool := Out.rec (motive := fun _ => Bool) (fun z => sameV z.v v) (fun _ _ => false) o
theorem isV_ok {o : Out} {v : V} (h : isV o v = true) : ∃ z, o = .ok z ∧ z.v = v := by
  cases o with
  | bad => cases h
  | ok z => exact ⟨z, rfl, sameV_eq (h : sameV z.v v = true)⟩

/-- a call at plain arguments with a plain value -/
theorem known_val {P : Program} {E : Env} (HE : EnvR P E) {fuel f : Nat} {args : List V} {d n : Nat} {v : V} (e : isV (runF E fuel f args (T.blank d) n) v = true) {vs : List Value} (hv : concL noB args = some vs)
    {val : Value} (hr : conc noB v = some val) : KnownCall P f args v := by
  obtain ⟨z, hz, rfl⟩ := isV_ok e
  exact ⟨runF_fn HE hz, vs, val, hv, hr, fun w L => runF_calls HE hz hv (fun β u hu => by
    have := conc_mono (noB_le β) _ _ hr
    rw [hu] at this
    exact Option.some.inj this) w L⟩

theorem bool_callsF {P : Program} {E : Env} (HE : EnvR P E) {fuel f : Nat} {args : List V} {d n : Nat} {b : Bool} (e : isV (runF E fuel f args (T.blank d) n) (.bool b) = true) {vs : List Value} (hv : concL noB args = some vs)
    (W : World) (L : laidP W) : Calls P f vs.toArray W fun e w' => e = .returned (.bool b) ∧ Below W.heap.size W w' := by
  obtain ⟨z, hz, hzv⟩ := isV_ok e
  exact runF_calls HE hz hv (fun β v h => by rw [hzv] at h; simp [conc] at h; exact h.symm) W L

end Go.Mir
namespace Go.Mir
open Go Go.RowKit

/- one memory is part of another -/
noncomputable def partB (all : Bool) (t u : T O) : Bool :=
  T.rec (motive := fun _ => T O → Bool) (fun u => T.rec (motive := fun _ => Bool) true (fun _ _ _ _ _ => false) (fun _ => false) u)
    (fun v _ _ pl pr u => T.rec (motive := fun _ => Bool) false
      (fun w l r _ _ => and (Option.rec (motive := fun _ => Bool) (Option.rec (motive := fun _ => Bool) true (fun b => Bool.rec true (not (plainO b)) all) w)
        (fun a => Option.rec (motive := fun _ => Bool) false (fun b => sameO a b) w) v) (and (pl l) (pr r))) (fun _ => false) u) (fun _ _ => false) t u

theorem partB_ok : ∀ {all : Bool} {t u : T O}, partB all t u = true → (∀ i o, t.get i = some o → u.get i = some o) ∧ (all = true → ∀ i o, plainO o = true → u.get i = some o → t.get i = some o)
  | _, .nil, .nil, _ => ⟨fun i o h => (by cases h), fun _ i o _ h => (by cases h)⟩
  | _, .nil, .node .., h => by cases h
  | _, .node .., .nil, h => by cases h
  | _, .nil, .fn _, h => by cases h
  | _, .node .., .fn _, h => by cases h
  | _, .fn _, _, h => by cases h
  | all, .node v l r, .node w l' r', h => by
    replace h : and (Option.rec (motive := fun _ => Bool) (Option.rec (motive := fun _ => Bool) true (fun b => Bool.rec true (not (plainO b)) all) w)
        (fun a => Option.rec (motive := fun _ => Bool) false (fun b => sameO a b) w) v) (and (partB all l l') (partB all r r')) = true := h
    have h1 := Bool.and_eq_true_iff.1 h
    have h2 := Bool.and_eq_true_iff.1 h1.2
    obtain ⟨a1, a2⟩ := partB_ok h2.1
    obtain ⟨b1, b2⟩ := partB_ok h2.2
    refine ⟨fun i o hi => ?_, fun ha i o hp hi => ?_⟩
    · cases i with
      | zero =>
        replace hi : v = some o := hi
        show w = some o
        subst hi
        cases w with
        | none => cases h1.1
        | some b => rw [sameO_eq h1.1]
      | succ i =>
        rw [T.get_node_succ] at hi ⊢
        split at hi
        · rename_i hc; rw [if_pos hc]; exact b1 _ _ hi
        · rename_i hc; rw [if_neg hc]; exact a1 _ _ hi
    · cases i with
      | zero =>
        replace hi : w = some o := hi
        show v = some o
        subst hi; subst ha
        cases v with
        | none =>
          have h3 : not (plainO o) = true := h1.1
          rw [hp] at h3; cases h3
        | some b => rw [sameO_eq h1.1]
      | succ i =>
        rw [T.get_node_succ] at hi ⊢
        split at hi
        · rename_i hc; rw [if_pos hc]; exact b2 ha _ _ hp hi
        · rename_i hc; rw [if_neg hc]; exact a2 ha _ _ hp hi

/-- what a run shows holds at least what is written in 'z' -/
noncomputable def chkR (z : Rz) (o : Out) : Bool := Out.rec (motive := fun _ => Bool) (fun y => and (sameB2 z.v y.v) (and (Nat.ble y.n z.n) (partB false z.h y.h))) (fun _ _ => false) o
where sameB2 (a b : V) : Bool := match a, b with | .tuple l, .tuple m => sameL l m | a, b => sameV a b

theorem chkR_ok {z : Rz} {o : Out} (h : chkR z o = true) : ∃ y, o = .ok y ∧ Rz.le z y := by
  cases o with
  | bad c f => cases h
  | ok y =>
    replace h : and (chkR.sameB2 z.v y.v) (and (Nat.ble y.n z.n) (partB false z.h y.h)) = true := h
    have h1 := Bool.and_eq_true_iff.1 h
    have h2 := Bool.and_eq_true_iff.1 h1.2
    refine ⟨y, rfl, ?_, Nat.le_of_ble_eq_true h2.1, (partB_ok h2.2).1⟩
    have h3 := h1.1
    unfold chkR.sameB2 at h3
    split at h3
    · rename_i l m hz hy; rw [hz, hy, sameL_eq h3]
    · exact sameV_eq h3

theorem FrR.more {P : Program} {tys : T TI} {lo hi : Nat} {β β' : Beta} {h h' : T O} {n n' : Nat} {fr : Fr} {F : Frame} (H : FrR P tys lo hi β h fr F) (M : MoreB hi β h n β' h' n') : FrR P tys lo hi β' h' fr F := by
  obtain ⟨i, regs, todo⟩ := fr
  obtain ⟨h1, h3⟩ := H
  refine ⟨h1.mono M.le, ?_⟩
  have gen : F.mode = .run ∧ TodoR β todo F.todo ∧ RegsR β regs F.tmps no → F.mode = .run ∧ TodoR β' todo F.todo ∧ RegsR β' regs F.tmps no := fun h => ⟨h.1, h.2.1.mono M.le, h.2.2.mono M.le⟩
  cases todo with
  | nil => exact gen h3
  | cons it t =>
    cases it with
    | dreg all sc =>
      obtain ⟨h2, ops, L, D, l, seen, last, evd, must, al, idf, T, a1, a2, a3, a4, a5, a6⟩ : F.mode = .run ∧ DregR P tys lo hi β h regs all sc t F none := h3
      exact ⟨h2, ops, L, D, l, seen, last, evd, must, al, idf, T, a1, a2, a3.mono M.le, a4.more M, a5, a6⟩
    | fin =>
      obtain ⟨h2, h4⟩ : F.mode = .returning ∧ RegsR β regs F.tmps no := h3
      exact ⟨h2, h4.mono M.le⟩
    | reg all rem => exact gen h3
    | code c => exact gen h3
    | inBlock l => exact gen h3
    | inLoop l => exact gen h3
    | inScope l => exact gen h3
    | inRange l => exact gen h3
    | endRange l => exact gen h3
    | beginRound => exact gen h3

/-- go on from a part of the memory -/
noncomputable def narrow (h0 : T O) (go : Go_) : Go_ := fun i regs todo cs h n => Bool.rec (bad 301) (go i regs todo cs h0 n) (partB true h0 h)

theorem narrow_ok {P : Program} {tys : T TI} {W0 : World} {f0 : Nat} {cs0 : List Frame} {B0 : Bs} {h0 : T O} {go : Go_} (G : Good P tys W0 f0 cs0 B0 go) : Good P tys W0 f0 cs0 B0 (narrow h0 go) := by
  intro r i regs todo cs h n e β F CS w lo S
  replace e : (Bool.rec (bad 301) (go i regs todo cs h0 n) (partB true h0 h) : Out) = .ok r := e
  rcases rec_ok e with ⟨hp, e⟩ | ⟨_, e⟩
  · obtain ⟨p1, p2⟩ := partB_ok hp
    have M : More β h n β h0 n := ⟨Le.refl β, Nat.le_refl n, fun id _ hb => ⟨hb, fun o ho hi => p2 rfl id o ho hi⟩⟩
    exact G _ _ _ _ _ _ _ e β F CS w lo ⟨S.hr.sub p1, S.fr.more (M.toB (Nat.le_refl n)), S.st.more (M.toB S.le), S.le⟩
  · exact (bad_ne e).elim

/-- the next thing is a draw of a map's entry, in the function asked for -/
noncomputable def cutAt (f : Nat) (i : Fi) (todo : List It) : Bool :=
  match todo with
  | .reg _ (o :: _) :: _ => and (Nat.beq i.fn f) (match o.op with | .next .. => true | _ => false)
  | _ => false

noncomputable def execC (E : Env) (f : Nat) (K : Go_) (fuel : Nat) : Go_ :=
  Nat.rec (motive := fun _ => Go_) (fun i regs todo _ _ _ => .bad 0 (some ⟨i, regs, todo⟩))
    (fun _ ih i regs todo cs h n => Bool.rec (step E i regs todo cs h n ih) (K i regs todo cs h n) (cutAt f i todo)) fuel

theorem execC_ok {P : Program} {E : Env} {W0 : World} {f0 : Nat} {cs0 : List Frame} {B0 : Bs} (HE : EnvR P E) {f : Nat} {K : Go_} (G : Good P E.tys W0 f0 cs0 B0 K) : ∀ fuel, Good P E.tys W0 f0 cs0 B0 (execC E f K fuel)
  | 0 => fun r i regs todo cs h n e => by cases e
  | fuel + 1 => fun r i regs todo cs h n e β F CS w lo S => by
    replace e : (Bool.rec (step E i regs todo cs h n (execC E f K fuel)) (K i regs todo cs h n) (cutAt f i todo) : Out) = .ok r := e
    rcases rec_ok e with ⟨_, e⟩ | ⟨_, e⟩
    · exact G _ _ _ _ _ _ _ e β F CS w lo S
    · exact step_ok (execC_ok HE G fuel) HE _ _ _ _ _ _ _ e β F CS w lo S

/-- function f is entered -/
noncomputable def enterG (fns : T Func) (f : Nat) (args : List V) (h : T O) (n : Nat) (go : Go_) : Out :=
  om (fns.get f) fun fn => om fn.body fun body => fNat fn.ntmps fun sz => regsOf args sz fun regs => go ⟨f, sz, [], none⟩ regs [.code body] [] h n

theorem enterG_narrow {fns : T Func} {f : Nat} {args : List V} {h0 h : T O} {n : Nat} {go : Go_} (hp : partB true h0 h = true) : enterG fns f args h n (narrow h0 go) = enterG fns f args h0 n go := by
  unfold enterG narrow
  rw [hp]

open Classical in
/-- whichever way is gone, it shows 'z' -/
noncomputable def combZ (z : Rz) (outs : List Out) : Out := if ∀ o ∈ outs, ∃ y, o = .ok y ∧ Rz.le z y then .ok z else bad 300

theorem combZ_ok {z r : Rz} {outs : List Out} (h : combZ z outs = .ok r) : ∀ o ∈ outs, ∃ y, o = .ok y ∧ Rz.le r y := by
  unfold combZ at h
  split at h
  · rename_i hh; cases h; exact hh
  · exact (bad_ne h).elim

theorem combZ_of {z : Rz} {outs : List Out} (h : ∀ o ∈ outs, ∃ y, o = .ok y ∧ Rz.le z y) : combZ z outs = .ok z := if_pos h

/-- a table of one call -/
noncomputable def subOf (f0 : Nat) (args0 : List V) (h0 : T O) (n0 : Nat) (z : Rz) (f : Nat) (args : List V) (h : T O) (n : Nat) : Out :=
  Bool.rec (bad 302) (.ok z) (and (Nat.beq f f0) (and (sameL args args0) (and (Nat.beq n n0) (partB true h0 h))))

theorem subOf_ok {f0 f n0 n : Nat} {args0 args : List V} {h0 h : T O} {z r : Rz} (e : subOf f0 args0 h0 n0 z f args h n = .ok r) : f = f0 ∧ args = args0 ∧ n = n0 ∧ partB true h0 h = true ∧ r = z := by
  rcases rec_ok e with ⟨hc, e⟩ | ⟨_, e⟩
  · have h1 := Bool.and_eq_true_iff.1 hc
    have h2 := Bool.and_eq_true_iff.1 h1.2
    have h3 := Bool.and_eq_true_iff.1 h2.2
    cases e
    exact ⟨beq_of h1.1, sameL_eq h2.1, beq_of h3.1, h3.2, rfl⟩
  · exact (bad_ne e).elim

/-- the call up to its first draw; then its step there, by 'EK', and on by 'go' -/
noncomputable def preK (E EK : Env) (fuel f : Nat) (args : List V) (h : T O) (n : Nat) (go : Go_) : Out :=
  enterG E.fns f args h n (execC E f (fun i regs todo cs h n => step EK i regs todo cs h n go) fuel)

/-- WHAT IS NEEDED OF A CALL THAT IS RUN APART -/
theorem sub_ok {P : Program} {E : Env} (HE : EnvR P E) {fuel f0 : Nat} {args0 : List V} {h0 : T O} {n0 : Nat} {z : Rz} {go : Go_} (G : ∀ W0 f0 cs0 B0, Good P E.tys W0 f0 cs0 B0 go)
    (hz : preK E { E with comb := combZ z } fuel f0 args0 h0 n0 go = .ok z) :
    ∀ f args h n r, subOf f0 args0 h0 n0 z f args h n = .ok r → ∃ go r', (∀ W0 f0 cs0 B0, Good P E.tys W0 f0 cs0 B0 go) ∧ Rz.le r r' ∧
      (om (E.fns.get f) fun fn => om fn.body fun body => fNat fn.ntmps fun sz => regsOf args sz fun regs => go ⟨f, sz, [], none⟩ regs [.code body] [] h n) = .ok r' := by
  intro f args h n r e
  obtain ⟨rfl, rfl, rfl, hp, rfl⟩ := subOf_ok e
  have HZ : EnvR P { E with comb := combZ r } := ⟨HE.tys, HE.fns, HE.ext, HE.hook, HE.mixed, HE.sub, fun outs r' h => combZ_ok h⟩
  have hG : ∀ W0 f0 cs0 B0, Good P E.tys W0 f0 cs0 B0 (fun i regs todo cs h n => step { E with comb := combZ r } i regs todo cs h n go) := fun W0 f0 cs0 B0 => step_ok (E := { E with comb := combZ r }) (G W0 f0 cs0 B0) HZ
  unfold preK at hz
  generalize (fun i regs todo cs h n => step { E with comb := combZ r } i regs todo cs h n go : Go_) = K at hz hG
  have h1 := (enterG_narrow (go := execC E f K fuel) hp).trans hz
  exact ⟨narrow h0 (execC E f K fuel), r, fun W0 f0 cs0 B0 => narrow_ok (execC_ok HE (hG W0 f0 cs0 B0) fuel), Rz.le.refl r, h1⟩
end Go.Mir
