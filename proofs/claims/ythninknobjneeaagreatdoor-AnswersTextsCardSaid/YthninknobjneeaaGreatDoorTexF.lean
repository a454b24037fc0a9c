/- Walks: a rune of bytes (the program's Get). -/
import Derived.Test.YthninknobjneeaaGreatDoorTexD
set_option linter.unusedSimpArgs false
set_option linter.unusedVariables false
set_option linter.defProp false
namespace Go.Mir
open Go Go.Proofs
set_option maxRecDepth 4000
set_option maxHeartbeats 8000000

theorem tb3' : toBytes tys 3 = false := by kernel_rfl
theorem tb5' : toBytes tys 5 = false := by kernel_rfl
theorem convK_53 {h : T O} {z : Int} {k : V → Out} : convK tys h 5 3 (.int .u8 z) k = convInt .i64 z k := by
  unfold convK; rw [ty5, om_some, ty3, om_some]

theorem size_ok {r : Nat} {h : T O} {n : Nat} : Fn env0 205 [.int .i64 (r : Int)] h n (fun v h' n' => v = .int .i64 (sizeR r : Int) ∧ h' = h ∧ n' = n) := by
  refine Fn.mk fn205 rfl fz205 (by simp) fun Q cs K => ?_
  rcases (by omega : r < 128 ∨ (128 ≤ r ∧ r < 2048) ∨ (2048 ≤ r ∧ r < 65536) ∨ 65536 ≤ r) with q | q | q | q
  all_goals
    first | (have f1 : ((r : Int) < 128) = True := eq_true (by omega)) | (have f1 : ((r : Int) < 128) = False := eq_false (by omega))
    first | (have f2 : ((r : Int) < 2048) = True := eq_true (by omega)) | (have f2 : ((r : Int) < 2048) = False := eq_false (by omega))
    first | (have f3 : ((r : Int) < 65536) = True := eq_true (by omega)) | (have f3 : ((r : Int) < 65536) = False := eq_false (by omega))
    simp (maxSteps := 2000000) (disch := first | omega | assumption) only [↓mCode, ↓mOps, mAll, seval, vPtr, ite_ne, wrap_i64, boundN_int, fn205, Tryz.f205, f1, f2, f3]
    refine K _ _ _ ⟨?_, rfl, rfl⟩
    have e : sizeR r = if r < 128 then 1 else if r < 2048 then 2 else if r < 65536 then 3 else 4 := rfl
    rw [e]
    repeat' split
    all_goals first | rfl | (exfalso; omega)

theorem may_ok {r : Nat} {h : T O} {n : Nat} : Fn env0 248 [.int .i64 (r : Int)] h n (fun v h' n' => v = .bool (mayR r) ∧ h' = h ∧ n' = n) := by
  refine Fn.mk fn248 rfl fz248 (by simp) fun Q cs K => ?_
  have f0 : ((0 : Int) ≤ (r : Int)) = True := eq_true (by omega)
  rcases (by omega : r < 55296 ∨ (55296 ≤ r ∧ r ≤ 57343) ∨ (57344 ≤ r ∧ r ≤ 1114111) ∨ 1114112 ≤ r) with q | q | q | q
  all_goals
    first | (have f1 : ((r : Int) ≤ 1114111) = True := eq_true (by omega)) | (have f1 : ((r : Int) ≤ 1114111) = False := eq_false (by omega))
    first | (have f2 : ((r : Int) < 55296) = True := eq_true (by omega)) | (have f2 : ((r : Int) < 55296) = False := eq_false (by omega))
    first | (have f3 : ((r : Int) > 57343) = True := eq_true (by omega)) | (have f3 : ((r : Int) > 57343) = False := eq_false (by omega))
    simp (maxSteps := 2000000) (disch := first | omega | assumption) only [↓mCode, ↓mOps, mAll, seval, vPtr, ite_ne, wrap_i64, boundN_int, fn248, Tryz.f248, f0, f1, f2, f3]
    refine K _ _ _ ⟨?_, rfl, rfl⟩
    congr 1
    simp only [mayR]
    simp
    omega

def headV (c : Nat) : V := match headR c with | some (r, m) => .tuple [.int .i64 (r : Int), .int .i64 (m : Int)] | none => .tuple [.int .i64 0, .int .i64 (-1)]

theorem head_ok {c : Nat} {h : T O} {n : Nat} (hc : c < 256) : Fn env0 247 [.int .u8 (c : Int)] h n (fun v h' n' => v = headV c ∧ h' = h ∧ n' = n) := by
  refine Fn.mk fn247 rfl fz247 (by simp) fun Q cs K => ?_
  have a1 : ∀ {k : V → Out}, intBin .and .u8 (c : Int) .u8 31 k = k (.int .u8 ((c % 32 : Nat) : Int)) := fun {k} => by have := and_u8 (a := c) (b := 31) (k := k) hc (by omega); rwa [and31] at this
  have a2 : ∀ {k : V → Out}, intBin .and .u8 (c : Int) .u8 15 k = k (.int .u8 ((c % 16 : Nat) : Int)) := fun {k} => by have := and_u8 (a := c) (b := 15) (k := k) hc (by omega); rwa [and15] at this
  have a3 : ∀ {k : V → Out}, intBin .and .u8 (c : Int) .u8 7 k = k (.int .u8 ((c % 8 : Nat) : Int)) := fun {k} => by have := and_u8 (a := c) (b := 7) (k := k) hc (by omega); rwa [and7] at this
  have v0 : ∀ {m : Nat} {k : V → Out}, m < 256 → convInt .i64 (m : Int) k = k (.int .i64 (m : Int)) := fun hm => convInt_i64 (by omega) (by omega)
  have c0 : ∀ {k : V → Out}, convInt .i64 (c : Int) k = k (.int .i64 (c : Int)) := v0 hc
  have c1 : ∀ {k : V → Out}, convInt .i64 ((c % 32 : Nat) : Int) k = k (.int .i64 ((c % 32 : Nat) : Int)) := v0 (by omega)
  have c2 : ∀ {k : V → Out}, convInt .i64 ((c % 16 : Nat) : Int) k = k (.int .i64 ((c % 16 : Nat) : Int)) := v0 (by omega)
  have c3 : ∀ {k : V → Out}, convInt .i64 ((c % 8 : Nat) : Int) k = k (.int .i64 ((c % 8 : Nat) : Int)) := v0 (by omega)
  rcases (by omega : c < 128 ∨ (128 ≤ c ∧ c < 194) ∨ (194 ≤ c ∧ c < 224) ∨ (224 ≤ c ∧ c < 240) ∨ (240 ≤ c ∧ c < 245) ∨ 245 ≤ c) with q | q | q | q | q | q
  all_goals
    first | (have f1 : ((c : Int) < 128) = True := eq_true (by omega)) | (have f1 : ((c : Int) < 128) = False := eq_false (by omega))
    first | (have f2 : ((194 : Int) ≤ (c : Int)) = True := eq_true (by omega)) | (have f2 : ((194 : Int) ≤ (c : Int)) = False := eq_false (by omega))
    first | (have f3 : ((c : Int) < 224) = True := eq_true (by omega)) | (have f3 : ((c : Int) < 224) = False := eq_false (by omega))
    first | (have f4 : ((224 : Int) ≤ (c : Int)) = True := eq_true (by omega)) | (have f4 : ((224 : Int) ≤ (c : Int)) = False := eq_false (by omega))
    first | (have f5 : ((c : Int) < 240) = True := eq_true (by omega)) | (have f5 : ((c : Int) < 240) = False := eq_false (by omega))
    first | (have f6 : ((240 : Int) ≤ (c : Int)) = True := eq_true (by omega)) | (have f6 : ((240 : Int) ≤ (c : Int)) = False := eq_false (by omega))
    first | (have f7 : ((c : Int) < 245) = True := eq_true (by omega)) | (have f7 : ((c : Int) < 245) = False := eq_false (by omega))
    simp (maxSteps := 2000000) (disch := first | omega | assumption) only [↓mCode, ↓mOps, mAll, seval, vPtr, ite_ne, wrap_i64, boundN_int, fn247, Tryz.f247, tb3', convK_53, a1, a2, a3, c0, c1, c2, c3, f1, f2, f3, f4, f5, f6, f7]
    refine K _ _ _ ⟨?_, rfl, rfl⟩
    first
    | (have hd : headR c = some (c, 0) := by
         unfold headR
         repeat' split
         all_goals first | rfl | (exfalso; omega)
       unfold headV; rw [hd]; rfl)
    | (have hd : headR c = some (c % 32, 1) := by
         unfold headR
         repeat' split
         all_goals first | rfl | (exfalso; omega)
       unfold headV; rw [hd]; rfl)
    | (have hd : headR c = some (c % 16, 2) := by
         unfold headR
         repeat' split
         all_goals first | rfl | (exfalso; omega)
       unfold headV; rw [hd]; rfl)
    | (have hd : headR c = some (c % 8, 3) := by
         unfold headR
         repeat' split
         all_goals first | rfl | (exfalso; omega)
       unfold headV; rw [hd]; rfl)
    | (have hd : headR c = none := by
         unfold headR
         repeat' split
         all_goals first | rfl | (exfalso; omega)
       unfold headV; rw [hd])
end Go.Mir
namespace Go.Mir
open Go Go.Proofs
set_option maxRecDepth 4000
set_option maxHeartbeats 8000000

noncomputable def gotoL (o : Option Code) (f : Code → Out) (x : Out) : Out := match o with | some r => f r | none => x
theorem gotoL_some {r : Code} {f : Code → Out} {x : Out} : gotoL (some r) f x = f r := rfl
theorem gotoL_none {f : Code → Out} {x : Out} : gotoL none f x = x := rfl
theorem gotoK_sc {l : Nat} {b : Code} {t : List It} {k : List It → Out} : gotoK l (.inScope b :: t) k = gotoL (Go.findLabel b l) (fun rest => k (.code rest :: .inScope b :: t)) (gotoK l t k) := rfl
def flS (x : Option Code) (b : Code) (y : Option Code) : Option Code := match x with | some r => some (.seq r b) | none => y
theorem flS_some {r b : Code} {y : Option Code} : flS (some r) b y = some (.seq r b) := rfl
theorem flS_none {b : Code} {y : Option Code} : flS none b y = y := rfl
section
variable {l : Nat}
theorem fl_seq {a b : Code} : Go.findLabel (.seq a b) l = flS (Go.findLabel a l) b (Go.findLabel b l) := rfl
theorem fl_label : Go.findLabel (.label l) l = some .skip := by simp [Go.findLabel]
theorem fl_region {i : Nat} {o : Array Oper} {d : Bool} : Go.findLabel (.region i o d) l = none := rfl
theorem fl_cond {c : Operand} {a b : Code} : Go.findLabel (.cond c a b) l = none := rfl
theorem fl_block {i : Nat} {a : Code} : Go.findLabel (.block i a) l = none := rfl
theorem fl_loop {a : Code} : Go.findLabel (.loop a) l = none := rfl
theorem fl_ret : Go.findLabel .ret l = none := rfl
theorem fl_skip : Go.findLabel .skip l = none := rfl
end
def mGoto := And.intro @gotoL_some <| And.intro @gotoL_none <| And.intro @gotoK_sc <| And.intro @flS_some <| And.intro @flS_none <| And.intro @fl_seq <| And.intro @fl_label <| And.intro @fl_region <| And.intro @fl_cond <| And.intro @fl_block <| And.intro @fl_loop <| And.intro @fl_ret <| And.intro @fl_skip <| And.intro @gotoK_code <| And.intro @gotoK_reg <| And.intro @gotoK_block <| @gotoK_loop

def getV (s : List Nat) : V := match getR s with | some (r, m) => .tuple [.int .i64 (r : Int), .int .i64 (m : Int), .int .i64 0] | none => .tuple [.int .i64 0, .int .i64 0, .int .i64 4]

theorem get_ok {s : List Nat} {h : T O} {n : Nat} (hb : ∀ c ∈ s, c < 256) (hl : s.length ≤ 4611686018427387903) : Fn env0 207 [.str s] h n (fun v h' n' => v = getV s ∧ h' = h ∧ n' = n) := by
  refine Fn.mk fn207 rfl fz207 (by simp) fun Q cs K => ?_
  cases s with
  | nil =>
    have e0 : ((-1 : Int) < 0) = True := eq_true (by omega)
    simp (maxSteps := 2000000) (disch := first | omega | assumption) only [↓mCode, ↓mOps, mAll, seval, vPtr, ite_ne, wrap_i64, boundN_int, fn207, Tryz.f207, List.map_nil, ↓W_goto, mGoto, e0, ne_eq, not_true_eq_false]
    exact K _ _ _ ⟨rfl, rfl, rfl⟩
  | cons c t =>
    have hc : c < 256 := hb c (List.mem_cons_self)
    have hc0 : (c :: t)[0]? = some c := rfl
    have ne : ((c :: t) ≠ []) = True := eq_true (List.cons_ne_nil _ _)
    generalize hs : c :: t = s at *
    have hget : getR s = (headR c).bind fun p => (contR p.2 t p.1).bind fun r => if mayR r = true ∧ sizeR r = p.2 + 1 then some (r, p.2 + 1) else none := by rw [← hs]; rfl
    have hlen : s.length = t.length + 1 := by rw [← hs]; rfl
    have hst : ∀ i, s[i + 1]? = t[i]? := fun i => by rw [← hs]; rfl
    simp (maxSteps := 2000000) (disch := first | omega | assumption) only [↓mCode, ↓mOps, mAll, seval, vPtr, ite_ne, wrap_i64, boundN_int, fn207, Tryz.f207, List.map_nil, ne, hc0]
    refine (head_ok hc).call e0_hook e0_subs ?_
    rintro _ h n ⟨rfl, rfl, rfl⟩
    cases hh : headR c with
    | none =>
      have hv : headV c = .tuple [.int .i64 0, .int .i64 (-1)] := by unfold headV; rw [hh]
      have hg : getV s = .tuple [.int .i64 0, .int .i64 0, .int .i64 4] := by unfold getV; rw [hget, hh]; rfl
      have e0 : ((-1 : Int) < 0) = True := eq_true (by omega)
      simp (maxSteps := 2000000) (disch := first | omega | assumption) only [↓mCode, ↓mOps, mAll, seval, vPtr, ite_ne, wrap_i64, boundN_int, fn207, Tryz.f207, hv, ↓W_goto, mGoto, e0]
      exact K _ _ _ ⟨hg.symm, rfl, rfl⟩
    | some p =>
      obtain ⟨r0, m⟩ := p
      have hv : headV c = .tuple [.int .i64 (r0 : Int), .int .i64 (m : Int)] := by unfold headV; rw [hh]
      have hm := headR_lt hc hh
      have hget : getR s = (contR m t r0).bind fun r => if mayR r = true ∧ sizeR r = m + 1 then some (r, m + 1) else none := by rw [hget, hh]; rfl
      have m0 : ((m : Int) < 0) = False := eq_false (by omega)
      by_cases c1 : s.length ≤ m
      · have c1' : ((s.length : Int) ≤ (m : Int)) = True := eq_true (by omega)
        have hg : getV s = .tuple [.int .i64 0, .int .i64 0, .int .i64 4] := by unfold getV; rw [hget, contR_short m t r0 (by omega)]; rfl
        simp (maxSteps := 2000000) (disch := first | omega | assumption) only [↓mCode, ↓mOps, mAll, seval, vPtr, ite_ne, wrap_i64, boundN_int, fn207, Tryz.f207, hv, m0, c1', ↓W_goto, mGoto]
        exact K _ _ _ ⟨hg.symm, rfl, rfl⟩
      · have c1' : ((s.length : Int) ≤ (m : Int)) = False := eq_false (by omega)
        simp (maxSteps := 2000000) (disch := first | omega | assumption) only [↓mCode, ↓mOps, mAll, seval, vPtr, ite_ne, wrap_i64, boundN_int, fn207, Tryz.f207, hv, m0, c1']
        refine W_loop (fun q regs h' n' => ∃ i r : Nat, q = m - i ∧ i ≤ m ∧ regs.get 0 = some (.str s) ∧ regs.get 5 = some (.int .i64 (r : Int)) ∧ regs.get 6 = some (.int .i64 (m : Int)) ∧ regs.get 24 = some (.int .i64 (m : Int)) ∧ regs.get 25 = some (.int .i64 (i : Int)) ∧
          ((i = 0 ∧ r < 256) ∨ (i = 1 ∧ r < 16384) ∨ (i = 2 ∧ r < 1048576) ∨ (i = 3 ∧ r < 67108864)) ∧ contR (m - i) (t.drop i) r = contR m t r0 ∧ h' = h ∧ n' = n)
          _ ⟨0, r0, rfl, by omega, ?_, ?_, ?_, ?_, ?_, .inl ⟨rfl, hm.1⟩, rfl, rfl, rfl⟩ ?_
        iterate 5
          · simp only [mBase, Nat.reduceEqDiff, Nat.reduceSub, reduceIte] <;> rfl
        rintro q regs h' n' ⟨i, r, rfl, hi, r0', r5, r6, r24, r25, hr, hcon, rfl, rfl⟩ IH
        by_cases c2 : i < m
        · have c2' : (i : Int) < (m : Int) := by omega
          obtain ⟨x, hx⟩ : ∃ x, t[i]? = some x := ⟨_, List.getElem?_eq_getElem (by omega)⟩
          have hsx : s[i + 1]? = some x := (hst i).trans hx
          have hxb : x < 256 := hb x (List.mem_of_getElem? hsx)
          have ei : ((i : Int) + 1).toNat = i + 1 := by omega
          have a1 : ∀ {k : V → Out}, intBin .and .u8 (x : Int) .u8 192 k = k (.int .u8 ((x &&& 192 : Nat) : Int)) := and_u8 (b := 192) hxb (by omega)
          have hdrop : t.drop i = x :: t.drop (i + 1) := by
            rw [List.drop_eq_getElem_cons (by omega)]
            congr 1
            exact Option.some.inj ((List.getElem?_eq_getElem (by omega)).symm.trans hx)
          have hm1 : m - i = (m - (i + 1)) + 1 := by omega
          by_cases c3 : x / 64 = 2
          · have c3' : ¬ (((x &&& 192 : Nat) : Int) ≠ 128) := by have := (and192 x hxb).2 c3; omega
            have a2 : ∀ {k : V → Out}, intBin .and .u8 (x : Int) .u8 63 k = k (.int .u8 ((x % 64 : Nat) : Int)) := fun {k} => by have := and_u8 (a := x) (b := 63) (k := k) hxb (by omega); rwa [and63] at this
            have a3 : ∀ {k : V → Out}, intBin .shl .i64 (r : Int) .u64 6 k = k (.int .i64 ((r * 64 : Nat) : Int)) := shl_6 (by omega)
            have a4 : ∀ {k : V → Out}, convInt .i64 ((x % 64 : Nat) : Int) k = k (.int .i64 ((x % 64 : Nat) : Int)) := convInt_i64 (by omega) (by omega)
            have a5 : ∀ {k : V → Out}, intBin .or .i64 ((r * 64 : Nat) : Int) .i64 ((x % 64 : Nat) : Int) k = k (.int .i64 ((r * 64 + x % 64 : Nat) : Int)) := fun {k} => by have := or_i64 (a := r * 64) (b := x % 64) (k := k) (by omega) (by omega); rwa [or64 r (by omega)] at this
            simp (maxSteps := 2000000) (disch := first | omega | assumption) only [↓mCode, ↓mOps, mAll, seval, vPtr, ite_ne, wrap_i64, boundN_int, fn207, Tryz.f207, tb3', convK_53, r0', r5, r6, r24, r25, c2', ei, hsx, a1, c3', a2, a3, a4, a5]
            refine IH (m - (i + 1)) _ _ _ (by omega) ⟨i + 1, r * 64 + x % 64, rfl, by omega, by simp (maxSteps := 2000000) (disch := first | omega | assumption) only [↓mCode, ↓mOps, mAll, seval, vPtr, ite_ne, wrap_i64, boundN_int, r0'], by simp (maxSteps := 2000000) (disch := first | omega | assumption) only [↓mCode, ↓mOps, mAll, seval, vPtr, ite_ne, wrap_i64, boundN_int], by simp only [mBase, Nat.reduceEqDiff, Nat.reduceSub, reduceIte, r6], by simp only [mBase, Nat.reduceEqDiff, Nat.reduceSub, reduceIte, r24], by simp only [mBase, Nat.reduceEqDiff, Nat.reduceSub, reduceIte, r25] <;> rfl, by omega, ?_, rfl, rfl⟩
            rw [← hcon, hm1, hdrop]
            simp only [contR]
            rw [if_pos c3]
          · have c3' : (((x &&& 192 : Nat) : Int) ≠ 128) = True := eq_true (fun e => c3 ((and192 x hxb).1 (by omega)))
            have hg : getV s = .tuple [.int .i64 0, .int .i64 0, .int .i64 4] := by
              unfold getV; rw [hget, ← hcon, hm1, hdrop]
              simp only [contR]
              rw [if_neg c3]; rfl
            simp (maxSteps := 2000000) (disch := first | omega | assumption) only [↓mCode, ↓mOps, mAll, seval, vPtr, ite_ne, wrap_i64, boundN_int, fn207, Tryz.f207, tb3', convK_53, r0', r5, r6, r24, r25, c2', ei, hsx, a1, c3', ↓W_goto, mGoto]
            exact K _ _ _ ⟨hg.symm, rfl, rfl⟩
        · have c2' : ¬ (i : Int) < (m : Int) := by omega
          have em : m - i = 0 := by omega
          rw [em] at hcon
          have hget : getR s = if mayR r = true ∧ sizeR r = m + 1 then some (r, m + 1) else none := by rw [hget, ← hcon]; rfl
          simp (maxSteps := 2000000) (disch := first | omega | assumption) only [↓mCode, ↓mOps, mAll, seval, vPtr, ite_ne, wrap_i64, boundN_int, fn207, Tryz.f207, tb3', convK_53, r0', r5, r6, r24, r25, c2']
          refine may_ok.call e0_hook e0_subs ?_
          rintro _ h' n' ⟨rfl, rfl, rfl⟩
          by_cases c4 : mayR r = true
          · simp (maxSteps := 2000000) (disch := first | omega | assumption) only [↓mCode, ↓mOps, mAll, seval, vPtr, ite_ne, wrap_i64, boundN_int, fn207, Tryz.f207, tb3', convK_53, r0', r5, r6, r24, r25, c4]
            refine size_ok.call e0_hook e0_subs ?_
            rintro _ h' n' ⟨rfl, rfl, rfl⟩
            by_cases c5 : sizeR r = m + 1
            · have c5' : ((sizeR r : Int) = (m : Int) + 1) = True := eq_true (by omega)
              have hg : getV s = .tuple [.int .i64 (r : Int), .int .i64 ((m + 1 : Nat) : Int), .int .i64 0] := by unfold getV; rw [hget, if_pos ⟨c4, c5⟩]
              simp (maxSteps := 2000000) (disch := first | omega | assumption) only [↓mCode, ↓mOps, mAll, seval, vPtr, ite_ne, wrap_i64, boundN_int, fn207, Tryz.f207, tb3', convK_53, r0', r5, r6, r24, r25, c5']
              exact K _ _ _ ⟨by rw [hg]; rfl, rfl, rfl⟩
            · have c5' : ((sizeR r : Int) = (m : Int) + 1) = False := eq_false (by omega)
              have hg : getV s = .tuple [.int .i64 0, .int .i64 0, .int .i64 4] := by unfold getV; rw [hget, if_neg fun e => c5 e.2]
              simp (maxSteps := 2000000) (disch := first | omega | assumption) only [↓mCode, ↓mOps, mAll, seval, vPtr, ite_ne, wrap_i64, boundN_int, fn207, Tryz.f207, tb3', convK_53, r0', r5, r6, r24, r25, c5']
              exact K _ _ _ ⟨hg.symm, rfl, rfl⟩
          · have c4' : mayR r = false := by simpa using c4
            have hg : getV s = .tuple [.int .i64 0, .int .i64 0, .int .i64 4] := by unfold getV; rw [hget, if_neg fun e => c4 e.1]
            simp (maxSteps := 2000000) (disch := first | omega | assumption) only [↓mCode, ↓mOps, mAll, seval, vPtr, ite_ne, wrap_i64, boundN_int, fn207, Tryz.f207, tb3', convK_53, r0', r5, r6, r24, r25, c4']
            exact K _ _ _ ⟨hg.symm, rfl, rfl⟩
end Go.Mir
