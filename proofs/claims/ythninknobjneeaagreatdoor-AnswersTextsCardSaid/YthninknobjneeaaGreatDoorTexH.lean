/- Walks: a rune of bytes (the reference's Get). -/
import Derived.Test.YthninknobjneeaaGreatDoorTexF
import Derived.Test.YthninknobjneeaaGreatDoorUtf
import Derived.Test.YthninknobjneeaaGreatDoorRw
set_option linter.unusedSimpArgs false
set_option linter.unusedVariables false
namespace Go.Mir
open Go Go.Proofs
set_option maxRecDepth 4000
set_option maxHeartbeats 8000000

theorem may01_ok {r : Nat} {h : T O} {n : Nat} : Fn env0 212 [.int .i64 (r : Int)] h n (fun v h' n' => v = .bool (mayR r) ∧ h' = h ∧ n' = n) := by
  refine Fn.mk fn212 rfl fz212 (by simp) fun Q cs K => ?_
  have f0 : ((0 : Int) ≤ (r : Int)) = True := eq_true (by omega)
  rcases (by omega : r < 55296 ∨ (55296 ≤ r ∧ r ≤ 57343) ∨ (57344 ≤ r ∧ r ≤ 1114111) ∨ 1114112 ≤ r) with q | q | q | q
  all_goals
    first | (have f1 : ((r : Int) ≤ 1114111) = True := eq_true (by omega)) | (have f1 : ((r : Int) ≤ 1114111) = False := eq_false (by omega))
    first | (have f2 : ((r : Int) < 55296) = True := eq_true (by omega)) | (have f2 : ((r : Int) < 55296) = False := eq_false (by omega))
    first | (have f3 : ((r : Int) > 57343) = True := eq_true (by omega)) | (have f3 : ((r : Int) > 57343) = False := eq_false (by omega))
    simp (maxSteps := 2000000) (disch := first | omega | assumption) only [↓mCode, ↓mOps, mAll, seval, vPtr, ite_ne, wrap_i64, boundN_int, fn212, Tryz.f212, f0, f1, f2, f3]
    refine K _ _ _ ⟨?_, rfl, rfl⟩
    congr 1
    simp only [mayR]
    simp
    omega

theorem convK_35 {h : T O} {z : Int} {k : V → Out} : convK tys h 3 5 (.int .i64 z) k = convInt .u8 z k := by
  unfold convK; rw [ty3, om_some, ty5, om_some]
theorem convInt_u8 {m : Nat} {k : V → Out} (h : m < 256) : convInt .u8 (m : Int) k = k (.int .u8 (m : Int)) := by
  have hw : wrapK .u8 (m : Int) k = k (.int .u8 (m : Int)) := by show fInt _ _ = _; rw [fInt_eq, wrap_u8 h]
  show Bool.rec (motive := fun _ => Out) (wrapK .u8 (m : Int) k) (k (.int .u8 (m : Int))) (Nat.ble m 255) = _
  rw [brec_ble]; split
  · rfl
  · exact hw

theorem put01_ok {r : Nat} {h : T O} {n : Nat} (hr : mayR r = true) : Fn env0 213 [.int .i64 (r : Int)] h n (fun v h' n' => v = .slice n 0 (putR r).length true (putR r).length (putR r).length ∧ h' = h.put n (some (.cells (ofT ((putR r).map fun b : Nat => V.int .u8 (b : Int))) (putR r).length 1)) ∧ n' = n + 1) := by
  refine Fn.mk fn213 rfl fz213 (by simp) fun Q cs K => ?_
  have hm := may_iff.1 hr
  have g1 : ∀ {k : V → Out}, intBin .quo .i64 (r : Int) .i64 64 k = k (.int .i64 ((r / 64 : Nat) : Int)) := quo_nat (b := 64) (by omega) (by omega)
  have g2 : ∀ {k : V → Out}, intBin .rem .i64 (r : Int) .i64 64 k = k (.int .i64 ((r % 64 : Nat) : Int)) := rem_nat (b := 64) (by omega)
  have g3 : ∀ {k : V → Out}, intBin .quo .i64 (r : Int) .i64 4096 k = k (.int .i64 ((r / 4096 : Nat) : Int)) := quo_nat (b := 4096) (by omega) (by omega)
  have g4 : ∀ {k : V → Out}, intBin .rem .i64 ((r / 64 : Nat) : Int) .i64 64 k = k (.int .i64 ((r / 64 % 64 : Nat) : Int)) := rem_nat (b := 64) (by omega)
  have g5 : ∀ {k : V → Out}, intBin .quo .i64 (r : Int) .i64 262144 k = k (.int .i64 ((r / 262144 : Nat) : Int)) := quo_nat (b := 262144) (by omega) (by omega)
  have g6 : ∀ {k : V → Out}, intBin .rem .i64 ((r / 4096 : Nat) : Int) .i64 64 k = k (.int .i64 ((r / 4096 % 64 : Nat) : Int)) := rem_nat (b := 64) (by omega)
  have s1 : (192 : Int) + ((r / 64 : Nat) : Int) = ((192 + r / 64 : Nat) : Int) := by omega
  have s2 : (128 : Int) + ((r % 64 : Nat) : Int) = ((128 + r % 64 : Nat) : Int) := by omega
  have s3 : (224 : Int) + ((r / 4096 : Nat) : Int) = ((224 + r / 4096 : Nat) : Int) := by omega
  have s4 : (128 : Int) + ((r / 64 % 64 : Nat) : Int) = ((128 + r / 64 % 64 : Nat) : Int) := by omega
  have s5 : (240 : Int) + ((r / 262144 : Nat) : Int) = ((240 + r / 262144 : Nat) : Int) := by omega
  have s6 : (128 : Int) + ((r / 4096 % 64 : Nat) : Int) = ((128 + r / 4096 % 64 : Nat) : Int) := by omega
  have t2 : ∀ {k : V → Out}, convInt .u8 ((128 + r % 64 : Nat) : Int) k = k (.int .u8 ((128 + r % 64 : Nat) : Int)) := convInt_u8 (by omega)
  have t4 : ∀ {k : V → Out}, convInt .u8 ((128 + r / 64 % 64 : Nat) : Int) k = k (.int .u8 ((128 + r / 64 % 64 : Nat) : Int)) := convInt_u8 (by omega)
  have t6 : ∀ {k : V → Out}, convInt .u8 ((128 + r / 4096 % 64 : Nat) : Int) k = k (.int .u8 ((128 + r / 4096 % 64 : Nat) : Int)) := convInt_u8 (by omega)
  rcases (by omega : r ≤ 127 ∨ (128 ≤ r ∧ r ≤ 2047) ∨ (2048 ≤ r ∧ r ≤ 65535) ∨ 65536 ≤ r) with q | q | q | q
  · have f1 : ((r : Int) ≤ 127) = True := eq_true (by omega)
    have t0 : ∀ {k : V → Out}, convInt .u8 (r : Int) k = k (.int .u8 (r : Int)) := convInt_u8 (by omega)
    have e : putR r = [r] := put_1.2 ⟨by omega, rfl⟩
    simp (maxSteps := 2000000) (disch := first | omega | assumption) only [↓mCode, ↓mOps, mAll, seval, vPtr, ite_ne, wrap_i64, boundN_int, fn213, Tryz.f213, tb5', convK_35, f1, t0]
    exact K _ _ _ ⟨by rw [e]; rfl, by rw [e]; rfl, rfl⟩
  · have f1 : ((r : Int) ≤ 127) = False := eq_false (by omega)
    have f2 : ((r : Int) ≤ 2047) = True := eq_true (by omega)
    have t1 : ∀ {k : V → Out}, convInt .u8 ((192 + r / 64 : Nat) : Int) k = k (.int .u8 ((192 + r / 64 : Nat) : Int)) := convInt_u8 (by omega)
    have e : putR r = [192 + r / 64, 128 + r % 64] := put_2.2 ⟨by omega, rfl, rfl⟩
    simp (maxSteps := 2000000) (disch := first | omega | assumption) only [↓mCode, ↓mOps, mAll, seval, vPtr, ite_ne, wrap_i64, boundN_int, fn213, Tryz.f213, tb5', convK_35, f1, f2, g1, g2, s1, s2, t1, t2]
    exact K _ _ _ ⟨by rw [e]; rfl, by rw [e]; rfl, rfl⟩
  · have f1 : ((r : Int) ≤ 127) = False := eq_false (by omega)
    have f2 : ((r : Int) ≤ 2047) = False := eq_false (by omega)
    have f3 : ((r : Int) ≤ 65535) = True := eq_true (by omega)
    have t3 : ∀ {k : V → Out}, convInt .u8 ((224 + r / 4096 : Nat) : Int) k = k (.int .u8 ((224 + r / 4096 : Nat) : Int)) := convInt_u8 (by omega)
    have e : putR r = [224 + r / 4096, 128 + r / 64 % 64, 128 + r % 64] := put_3.2 ⟨by omega, rfl, rfl, rfl⟩
    simp (maxSteps := 2000000) (disch := first | omega | assumption) only [↓mCode, ↓mOps, mAll, seval, vPtr, ite_ne, wrap_i64, boundN_int, fn213, Tryz.f213, tb5', convK_35, f1, f2, f3, g1, g2, g3, g4, s2, s3, s4, t2, t3, t4]
    exact K _ _ _ ⟨by rw [e]; rfl, by rw [e]; rfl, rfl⟩
  · have f1 : ((r : Int) ≤ 127) = False := eq_false (by omega)
    have f2 : ((r : Int) ≤ 2047) = False := eq_false (by omega)
    have f3 : ((r : Int) ≤ 65535) = False := eq_false (by omega)
    have t5 : ∀ {k : V → Out}, convInt .u8 ((240 + r / 262144 : Nat) : Int) k = k (.int .u8 ((240 + r / 262144 : Nat) : Int)) := convInt_u8 (by omega)
    have e : putR r = [240 + r / 262144, 128 + r / 4096 % 64, 128 + r / 64 % 64, 128 + r % 64] := put_4.2 ⟨by omega, rfl, rfl, rfl, rfl⟩
    simp (maxSteps := 2000000) (disch := first | omega | assumption) only [↓mCode, ↓mOps, mAll, seval, vPtr, ite_ne, wrap_i64, boundN_int, fn213, Tryz.f213, tb5', convK_35, f1, f2, f3, g1, g2, g3, g4, g5, g6, s2, s4, s5, s6, t2, t4, t5, t6]
    exact K _ _ _ ⟨by rw [e]; rfl, by rw [e]; rfl, rfl⟩
end Go.Mir
namespace Go.Mir
open Go Go.Proofs
set_option maxRecDepth 4000
set_option maxHeartbeats 16000000

theorem mul_nat {a b : Nat} {k : V → Out} (h : a * b < 2 ^ 62) : intBin .mul .i64 (a : Int) .i64 (b : Int) k = k (.int .i64 ((a * b : Nat) : Int)) := by
  have e2 : (a : Int) * (b : Int) = ((a * b : Nat) : Int) := by simp
  have : Go.binOp .mul 0 (.int .i64 (a : Int)) (.int .i64 (b : Int)) = .pure (.int .i64 (IntKind.wrap .i64 ((a : Int) * (b : Int)))) := by simp [Go.binOp, Op.intArith]; rfl
  generalize a * b = q at *
  show gen .mul .i64 (a : Int) .i64 (b : Int) k = _; unfold gen; rw [this, e2, wrap_i64 (by omega) (by omega), genI_int]

theorem natsOf_bytes : ∀ (bs : List Nat) (k : List Nat → Out), (∀ b ∈ bs, b < 256) → natsOf (bs.map fun b : Nat => V.int .u8 (b : Int)) k = k bs
  | [], _, _ => rfl
  | b :: bs, k, h => by
    have hb : Nat.ble b 255 = true := Nat.ble_eq_true_of_le (by have := h b (List.mem_cons_self); omega)
    show need (Nat.ble b 255) (natsOf (bs.map fun b : Nat => V.int .u8 (b : Int)) fun l => k (b :: l)) = _
    rw [hb]
    exact natsOf_bytes bs _ fun x hx => h x (List.mem_cons_of_mem _ hx)

theorem tb9' : toBytes tys 9 = false := by kernel_rfl
theorem isU8_5 : isU8 tys 5 = true := by kernel_rfl
theorem bytesStr {h : T O} {id kk lo : Nat} {ex : Bool} {bs : List Nat} {k : V → Out} (hg : h.get id = some (.cells (ofT (bs.map fun b : Nat => V.int .u8 (b : Int))) bs.length 1)) (hb : ∀ b ∈ bs, b < 256) :
    convK tys h 165 9 (.slice id 0 bs.length ex kk lo) k = k (.str bs) := by
  unfold convK; rw [ty165, om_some, ty9, om_some]
  show need (isU8 tys 5) (cellsAt h id 0 bs.length fun l => natsOf l fun l => k (.str l)) = _
  rw [isU8_5]
  show cellsAt h id 0 bs.length _ = _
  rw [cellsAt_eq, hg]
  have e0 : Nat.ble (0 + bs.length) bs.length = true := Nat.ble_eq_true_of_le (by omega)
  show need (Nat.ble (0 + bs.length) bs.length) (loadN (ofT (bs.map fun b : Nat => V.int .u8 (b : Int))) 0 bs.length _) = _
  rw [e0]
  show loadN (ofT (bs.map fun b : Nat => V.int .u8 (b : Int))) 0 bs.length _ = _
  rw [loadN_ofT (by simp), List.drop_zero, List.take_of_length_le (by simp)]
  exact natsOf_bytes bs _ hb

theorem putR_bytes {r : Nat} (h : mayR r = true) : ∀ b ∈ putR r, b < 256 := by
  have hm := may_iff.1 h
  intro b hb
  unfold putR at hb
  repeat' split at hb
  all_goals
    simp only [List.mem_cons, List.mem_nil_iff, or_false] at hb
    rcases hb with rfl | rfl | rfl | rfl <;> omega

theorem uniq1 {c x : Nat} {t : List Nat} (h : getR (c :: t) = some (x, 1)) : x = acc1 c := by
  obtain ⟨r0, h1, h2, _, _⟩ := getR_iff.1 h
  have := headR_0.1 h1
  simp only [contR, Option.some.injEq] at h2
  unfold acc1; omega
theorem uniq2 {c d x : Nat} {t : List Nat} (h : getR (c :: d :: t) = some (x, 2)) : x = acc2 c d := by
  obtain ⟨r0, h1, h2, _, _⟩ := getR_iff.1 h
  have := headR_1.1 h1
  simp only [contR] at h2
  unfold acc2
  split at h2
  · cases h2; omega
  · cases h2
theorem uniq3 {c d e x : Nat} {t : List Nat} (h : getR (c :: d :: e :: t) = some (x, 3)) : x = acc3 c d e := by
  obtain ⟨r0, h1, h2, _, _⟩ := getR_iff.1 h
  have := headR_2.1 h1
  simp only [contR] at h2
  unfold acc3
  split at h2
  · split at h2
    · cases h2; omega
    · cases h2
  · cases h2
theorem uniq4 {c d e f x : Nat} {t : List Nat} (h : getR (c :: d :: e :: f :: t) = some (x, 4)) : x = acc4 c d e f := by
  obtain ⟨r0, h1, h2, _, _⟩ := getR_iff.1 h
  have := headR_3.1 h1
  simp only [contR] at h2
  unfold acc4
  split at h2
  · split at h2
    · split at h2
      · cases h2; omega
      · cases h2
    · cases h2
  · cases h2

/-- the rune that bytes begin with, and how many it has; (0, 0) where none is -/
def get01V (s : List Nat) : V := match getR s with | some (r, m) => .tuple [.int .i64 (r : Int), .int .i64 (m : Int)] | none => .tuple [.int .i64 0, .int .i64 0]

theorem get01_ok {s : List Nat} {h : T O} {n : Nat} (hb : ∀ c ∈ s, c < 256) (hl : s.length ≤ 4) : Fn env0 161 [.str s] h n (fun v h' n' => v = get01V s ∧ Gro h n h' n') := by
  refine Fn.mk fn161 rfl fz161 (by simp) fun Q cs K => ?_
  simp (maxSteps := 2000000) (disch := first | omega | assumption) only [↓mCode, ↓mOps, mAll, seval, vPtr, ite_ne, wrap_i64, boundN_int, fn161, Tryz.f161]
  refine W_loop (fun q regs h' n' => ∃ m : Nat, q = 5 - m ∧ 1 ≤ m ∧ m ≤ 5 ∧ regs.get 0 = some (.str s) ∧ regs.get 4 = some (.int .i64 (m : Int)) ∧ (∀ x j, j < m → getR s ≠ some (x, j)) ∧ Gro h n h' n')
    _ ⟨1, rfl, Nat.le_refl _, by omega, ?_, ?_, fun x j hj e => ?_, Gro.refl h n⟩ ?_
  iterate 2
    · simp only [mBase, Nat.reduceEqDiff, Nat.reduceSub, reduceIte] <;> rfl
  · have := (getR_some e).1; omega
  rintro q regs h' n' ⟨m, rfl, hm1, hm5, r0, r4, hx, G⟩ IH
  by_cases c4 : m ≤ 4
  · have c4' : ((m : Int) ≤ 4) = True := eq_true (by omega)
    by_cases cl : m ≤ s.length
    · have cl' : ((m : Int) ≤ (s.length : Int)) = True := eq_true (by omega)
      rcases (by omega : m = 1 ∨ m = 2 ∨ m = 3 ∨ m = 4) with rfl | rfl | rfl | rfl
      · obtain ⟨c, t, hs⟩ : ∃ c t, s = c :: t := by
          match s, cl with
          | c :: t, _ => exact ⟨c, t, rfl⟩
        have bc : c < 256 := hb c (by rw [hs]; simp)
        have gc : s[0]? = some c := by rw [hs]; rfl
        have vc : ∀ {k : V → Out}, convInt .i64 (c : Int) k = k (.int .i64 (c : Int)) := convInt_i64 (by omega) (by omega)
        have cl2 : ((1 : Int) ≤ (s.length : Int)) = True := eq_true (by omega)
        have c42 : ((1 : Int) ≤ 4) = True := eq_true (by omega)
        have z0 : ∀ {k : V → Out}, intBin .mul .i64 64 .i64 0 k = k (.int .i64 0) := fun {k} => mul_nat (a := 64) (b := 0) (by omega)
        have s0' : (0 : Int) + ((c : Nat) : Int) = ((c : Nat) : Int) := by omega
        simp (maxSteps := 2000000) (disch := first | omega | assumption) only [↓mCode, ↓mOps, mAll, seval, vPtr, ite_ne, wrap_i64, boundN_int, fn161, Tryz.f161, tb3', convK_53, r0, r4, c42, cl2]
        refine W_loopE (fun q regs h9 n9 => ∃ i r : Nat, q = 1 - i ∧ i ≤ 1 ∧ regs.get 0 = some (.str s) ∧ regs.get 4 = some (.int .i64 1) ∧ regs.get 5 = some (.int .i64 (r : Int)) ∧ regs.get 6 = some (.int .i64 (i : Int)) ∧ ((i = 0 ∧ r = 0) ∨ (i = 1 ∧ r = c)) ∧ Gro h n h9 n9)
          (fun regs h9 n9 => regs.get 0 = some (.str s) ∧ regs.get 4 = some (.int .i64 1) ∧ regs.get 5 = some (.int .i64 ((c : Nat) : Int)) ∧ Gro h n h9 n9)
          _ ⟨0, 0, rfl, by omega, ?_, ?_, ?_, ?_, .inl ⟨rfl, rfl⟩, G⟩ ?_ ?_
        iterate 4
          · simp only [mBase, Nat.reduceEqDiff, Nat.reduceSub, reduceIte, r0, r4] <;> rfl
        · rintro t2 hexit q regs h9 n9 ⟨i, r, e0, hi, r0, r4, r5, r6, hacc, G⟩ IH2
          rcases hacc with ⟨rfl, rfl⟩ | ⟨rfl, rfl⟩
          · simp (maxSteps := 2000000) (disch := first | omega | assumption) only [↓mCode, ↓mOps, mAll, seval, vPtr, ite_ne, wrap_i64, boundN_int, fn161, Tryz.f161, tb3', convK_53, r0, r4, r5, r6, gc, vc, z0, s0']
            exact IH2 (1 - 1) _ _ _ (by omega) ⟨1, c, rfl, by omega, by simp only [mBase, Nat.reduceEqDiff, Nat.reduceSub, reduceIte, r0], by simp only [mBase, Nat.reduceEqDiff, Nat.reduceSub, reduceIte, r4], by simp only [mBase, Nat.reduceEqDiff, Nat.reduceSub, reduceIte, r0], by simp only [mBase, Nat.reduceEqDiff, Nat.reduceSub, reduceIte, r0] <;> rfl, .inr (⟨rfl, rfl⟩), G⟩
          · simp (maxSteps := 2000000) (disch := first | omega | assumption) only [↓mCode, ↓mOps, mAll, seval, vPtr, ite_ne, wrap_i64, boundN_int, fn161, Tryz.f161, tb3', convK_53, r0, r4, r5, r6]
            exact hexit _ _ _ ⟨by simp only [mBase, Nat.reduceEqDiff, Nat.reduceSub, reduceIte, r0], by simp only [mBase, Nat.reduceEqDiff, Nat.reduceSub, reduceIte, r4], by simp only [mBase, Nat.reduceEqDiff, Nat.reduceSub, reduceIte, r5], G⟩
        · rintro regs h9 n9 ⟨r0, r4, r5, G⟩
          have st := step1 (t := t) (c := c)
          rw [← hs] at st
          have ea : acc1 c = c := rfl
          rw [ea] at st
          have es : s.take 1 = [c] := by rw [hs]; rfl
          have un : ∀ x, getR s = some (x, 1) → x = c := fun x e => by rw [hs] at e; exact uniq1 e
          simp (maxSteps := 2000000) (disch := first | omega | assumption) only [↓mCode, ↓mOps, mAll, seval, vPtr, ite_ne, wrap_i64, boundN_int, fn161, Tryz.f161, tb3', convK_53, r0, r4, r5]
          refine W_draw sr161_14 ss161_14 ?_ ?_
          · exact sk161_14
          simp (maxSteps := 2000000) (disch := first | omega | assumption) only [↓mCode, ↓mOps, mAll, seval, vPtr, ite_ne, wrap_i64, boundN_int, fn161, Tryz.f161, tb3', convK_53, r0, r4, r5]
          refine may01_ok.call e0_hook e0_subs ?_
          rintro _ h9 n9 ⟨rfl, rfl, rfl⟩
          by_cases hm : mayR c = true
          · simp (maxSteps := 2000000) (disch := first | omega | assumption) only [↓mCode, ↓mOps, mAll, seval, vPtr, ite_ne, wrap_i64, boundN_int, fn161, Tryz.f161, tb3', convK_53, r0, r4, r5, hm]
            refine (put01_ok hm).call e0_hook e0_subs ?_
            rintro _ _ _ ⟨rfl, rfl, rfl⟩
            have cv : ∀ {k : V → Out}, convK tys (h9.put n9 (some (.cells (ofT ((putR c).map fun b : Nat => V.int .u8 (b : Int))) (putR c).length 1))) 165 9 (.slice n9 0 (putR c).length true (putR c).length (putR c).length) k = k (.str (putR c)) := bytesStr (T.get_put _ _ _ _ |>.trans (if_pos rfl)) (putR_bytes hm)
            by_cases hp : putR c = [c]
            · have hp' : (putR c = s.take 1) = True := eq_true (by rw [es]; exact hp)
              simp (maxSteps := 2000000) (disch := first | omega | assumption) only [↓mCode, ↓mOps, mAll, seval, vPtr, ite_ne, wrap_i64, boundN_int, fn161, Tryz.f161, tb3', convK_53, tb9', cv, r0, r4, r5, cl2, hp']
              have hg := st.1 ⟨hm, hp⟩
              exact K _ _ _ ⟨by unfold get01V; rw [hg] <;> rfl, G.put _⟩
            · have hp' : (putR c = s.take 1) = False := eq_false (by rw [es]; exact hp)
              simp (maxSteps := 2000000) (disch := first | omega | assumption) only [↓mCode, ↓mOps, mAll, seval, vPtr, ite_ne, wrap_i64, boundN_int, fn161, Tryz.f161, tb3', convK_53, tb9', cv, r0, r4, r5, cl2, hp']
              refine IH (5 - 2) _ _ _ (by omega) ⟨2, rfl, by omega, by omega, by simp only [mBase, Nat.reduceEqDiff, Nat.reduceSub, reduceIte, r0], by simp only [mBase, Nat.reduceEqDiff, Nat.reduceSub, reduceIte, r4] <;> rfl, fun x j hj e => ?_, G.put _⟩
              by_cases ej : j = 1
              · subst ej; exact hp (st.2 (by rw [e, un x e])).2
              · exact hx x j (by omega) e
          · have hm' : mayR c = false := by simpa using hm
            simp (maxSteps := 2000000) (disch := first | omega | assumption) only [↓mCode, ↓mOps, mAll, seval, vPtr, ite_ne, wrap_i64, boundN_int, fn161, Tryz.f161, tb3', convK_53, r0, r4, r5, hm']
            refine IH (5 - 2) _ _ _ (by omega) ⟨2, rfl, by omega, by omega, by simp only [mBase, Nat.reduceEqDiff, Nat.reduceSub, reduceIte, r0], by simp only [mBase, Nat.reduceEqDiff, Nat.reduceSub, reduceIte, r4] <;> rfl, fun x j hj e => ?_, G⟩
            by_cases ej : j = 1
            · subst ej; exact hm (st.2 (by rw [e, un x e])).1
            · exact hx x j (by omega) e
      · obtain ⟨c, d, t, hs⟩ : ∃ c d t, s = c :: d :: t := by
          match s, cl with
          | c :: d :: t, _ => exact ⟨c, d, t, rfl⟩
        have bc : c < 256 := hb c (by rw [hs]; simp)
        have gc : s[0]? = some c := by rw [hs]; rfl
        have vc : ∀ {k : V → Out}, convInt .i64 (c : Int) k = k (.int .i64 (c : Int)) := convInt_i64 (by omega) (by omega)
        have bd : d < 256 := hb d (by rw [hs]; simp)
        have gd : s[1]? = some d := by rw [hs]; rfl
        have vd : ∀ {k : V → Out}, convInt .i64 (d : Int) k = k (.int .i64 (d : Int)) := convInt_i64 (by omega) (by omega)
        have cl2 : ((2 : Int) ≤ (s.length : Int)) = True := eq_true (by omega)
        have c42 : ((2 : Int) ≤ 4) = True := eq_true (by omega)
        have z0 : ∀ {k : V → Out}, intBin .mul .i64 64 .i64 0 k = k (.int .i64 0) := fun {k} => mul_nat (a := 64) (b := 0) (by omega)
        have w0 : ∀ {k : V → Out}, intBin .rem .i64 (c : Int) .i64 32 k = k (.int .i64 ((c % 32 : Nat) : Int)) := rem_nat (b := 32) (by omega)
        have s0' : (0 : Int) + ((c % 32 : Nat) : Int) = ((c % 32 : Nat) : Int) := by omega
        have w1 : ∀ {k : V → Out}, intBin .rem .i64 (d : Int) .i64 64 k = k (.int .i64 ((d % 64 : Nat) : Int)) := rem_nat (b := 64) (by omega)
        have m1 : ∀ {k : V → Out}, intBin .mul .i64 64 .i64 ((c % 32 : Nat) : Int) k = k (.int .i64 ((64 * (c % 32) : Nat) : Int)) := mul_nat (a := 64) (by omega)
        have s1' : ((64 * (c % 32) : Nat) : Int) + ((d % 64 : Nat) : Int) = ((64 * (c % 32) + d % 64 : Nat) : Int) := by omega
        simp (maxSteps := 2000000) (disch := first | omega | assumption) only [↓mCode, ↓mOps, mAll, seval, vPtr, ite_ne, wrap_i64, boundN_int, fn161, Tryz.f161, tb3', convK_53, r0, r4, c42, cl2]
        refine W_loopE (fun q regs h9 n9 => ∃ i r : Nat, q = 2 - i ∧ i ≤ 2 ∧ regs.get 0 = some (.str s) ∧ regs.get 4 = some (.int .i64 2) ∧ regs.get 5 = some (.int .i64 (r : Int)) ∧ regs.get 6 = some (.int .i64 (i : Int)) ∧ ((i = 0 ∧ r = 0) ∨ (i = 1 ∧ r = c % 32) ∨ (i = 2 ∧ r = 64 * (c % 32) + d % 64)) ∧ Gro h n h9 n9)
          (fun regs h9 n9 => regs.get 0 = some (.str s) ∧ regs.get 4 = some (.int .i64 2) ∧ regs.get 5 = some (.int .i64 ((64 * (c % 32) + d % 64 : Nat) : Int)) ∧ Gro h n h9 n9)
          _ ⟨0, 0, rfl, by omega, ?_, ?_, ?_, ?_, .inl ⟨rfl, rfl⟩, G⟩ ?_ ?_
        iterate 4
          · simp only [mBase, Nat.reduceEqDiff, Nat.reduceSub, reduceIte, r0, r4] <;> rfl
        · rintro t2 hexit q regs h9 n9 ⟨i, r, e0, hi, r0, r4, r5, r6, hacc, G⟩ IH2
          rcases hacc with ⟨rfl, rfl⟩ | ⟨rfl, rfl⟩ | ⟨rfl, rfl⟩
          · simp (maxSteps := 2000000) (disch := first | omega | assumption) only [↓mCode, ↓mOps, mAll, seval, vPtr, ite_ne, wrap_i64, boundN_int, fn161, Tryz.f161, tb3', convK_53, r0, r4, r5, r6, gc, vc, z0, w0, s0']
            exact IH2 (2 - 1) _ _ _ (by omega) ⟨1, c % 32, rfl, by omega, by simp only [mBase, Nat.reduceEqDiff, Nat.reduceSub, reduceIte, r0], by simp only [mBase, Nat.reduceEqDiff, Nat.reduceSub, reduceIte, r4], by simp only [mBase, Nat.reduceEqDiff, Nat.reduceSub, reduceIte, r0], by simp only [mBase, Nat.reduceEqDiff, Nat.reduceSub, reduceIte, r0] <;> rfl, .inr (.inl ⟨rfl, rfl⟩), G.put _⟩
          · simp (maxSteps := 2000000) (disch := first | omega | assumption) only [↓mCode, ↓mOps, mAll, seval, vPtr, ite_ne, wrap_i64, boundN_int, fn161, Tryz.f161, tb3', convK_53, r0, r4, r5, r6, gd, vd, w1, m1, s1']
            exact IH2 (2 - 2) _ _ _ (by omega) ⟨2, 64 * (c % 32) + d % 64, rfl, by omega, by simp only [mBase, Nat.reduceEqDiff, Nat.reduceSub, reduceIte, r0], by simp only [mBase, Nat.reduceEqDiff, Nat.reduceSub, reduceIte, r4], by simp only [mBase, Nat.reduceEqDiff, Nat.reduceSub, reduceIte, r0], by simp only [mBase, Nat.reduceEqDiff, Nat.reduceSub, reduceIte, r0] <;> rfl, .inr (.inr (⟨rfl, rfl⟩)), G⟩
          · simp (maxSteps := 2000000) (disch := first | omega | assumption) only [↓mCode, ↓mOps, mAll, seval, vPtr, ite_ne, wrap_i64, boundN_int, fn161, Tryz.f161, tb3', convK_53, r0, r4, r5, r6]
            exact hexit _ _ _ ⟨by simp only [mBase, Nat.reduceEqDiff, Nat.reduceSub, reduceIte, r0], by simp only [mBase, Nat.reduceEqDiff, Nat.reduceSub, reduceIte, r4], by simp only [mBase, Nat.reduceEqDiff, Nat.reduceSub, reduceIte, r5], G⟩
        · rintro regs h9 n9 ⟨r0, r4, r5, G⟩
          have st := step2 (t := t) bc bd
          rw [← hs] at st
          have ea : acc2 c d = 64 * (c % 32) + d % 64 := rfl
          rw [ea] at st
          have es : s.take 2 = [c, d] := by rw [hs]; rfl
          have un : ∀ x, getR s = some (x, 2) → x = 64 * (c % 32) + d % 64 := fun x e => by rw [hs] at e; exact uniq2 e
          generalize 64 * (c % 32) + d % 64 = r at *
          simp (maxSteps := 2000000) (disch := first | omega | assumption) only [↓mCode, ↓mOps, mAll, seval, vPtr, ite_ne, wrap_i64, boundN_int, fn161, Tryz.f161, tb3', convK_53, r0, r4, r5]
          refine W_draw sr161_14 ss161_14 ?_ ?_
          · exact sk161_14
          simp (maxSteps := 2000000) (disch := first | omega | assumption) only [↓mCode, ↓mOps, mAll, seval, vPtr, ite_ne, wrap_i64, boundN_int, fn161, Tryz.f161, tb3', convK_53, r0, r4, r5]
          refine may01_ok.call e0_hook e0_subs ?_
          rintro _ h9 n9 ⟨rfl, rfl, rfl⟩
          by_cases hm : mayR r = true
          · simp (maxSteps := 2000000) (disch := first | omega | assumption) only [↓mCode, ↓mOps, mAll, seval, vPtr, ite_ne, wrap_i64, boundN_int, fn161, Tryz.f161, tb3', convK_53, r0, r4, r5, hm]
            refine (put01_ok hm).call e0_hook e0_subs ?_
            rintro _ _ _ ⟨rfl, rfl, rfl⟩
            have cv : ∀ {k : V → Out}, convK tys (h9.put n9 (some (.cells (ofT ((putR r).map fun b : Nat => V.int .u8 (b : Int))) (putR r).length 1))) 165 9 (.slice n9 0 (putR r).length true (putR r).length (putR r).length) k = k (.str (putR r)) := bytesStr (T.get_put _ _ _ _ |>.trans (if_pos rfl)) (putR_bytes hm)
            by_cases hp : putR r = [c, d]
            · have hp' : (putR r = s.take 2) = True := eq_true (by rw [es]; exact hp)
              simp (maxSteps := 2000000) (disch := first | omega | assumption) only [↓mCode, ↓mOps, mAll, seval, vPtr, ite_ne, wrap_i64, boundN_int, fn161, Tryz.f161, tb3', convK_53, tb9', cv, r0, r4, r5, cl2, hp']
              have hg := st.1 ⟨hm, hp⟩
              exact K _ _ _ ⟨by unfold get01V; rw [hg] <;> rfl, G.put _⟩
            · have hp' : (putR r = s.take 2) = False := eq_false (by rw [es]; exact hp)
              simp (maxSteps := 2000000) (disch := first | omega | assumption) only [↓mCode, ↓mOps, mAll, seval, vPtr, ite_ne, wrap_i64, boundN_int, fn161, Tryz.f161, tb3', convK_53, tb9', cv, r0, r4, r5, cl2, hp']
              refine IH (5 - 3) _ _ _ (by omega) ⟨3, rfl, by omega, by omega, by simp only [mBase, Nat.reduceEqDiff, Nat.reduceSub, reduceIte, r0], by simp only [mBase, Nat.reduceEqDiff, Nat.reduceSub, reduceIte, r4] <;> rfl, fun x j hj e => ?_, G.put _⟩
              by_cases ej : j = 2
              · subst ej; exact hp (st.2 (by rw [e, un x e])).2
              · exact hx x j (by omega) e
          · have hm' : mayR r = false := by simpa using hm
            simp (maxSteps := 2000000) (disch := first | omega | assumption) only [↓mCode, ↓mOps, mAll, seval, vPtr, ite_ne, wrap_i64, boundN_int, fn161, Tryz.f161, tb3', convK_53, r0, r4, r5, hm']
            refine IH (5 - 3) _ _ _ (by omega) ⟨3, rfl, by omega, by omega, by simp only [mBase, Nat.reduceEqDiff, Nat.reduceSub, reduceIte, r0], by simp only [mBase, Nat.reduceEqDiff, Nat.reduceSub, reduceIte, r4] <;> rfl, fun x j hj e => ?_, G⟩
            by_cases ej : j = 2
            · subst ej; exact hm (st.2 (by rw [e, un x e])).1
            · exact hx x j (by omega) e
      · obtain ⟨c, d, e, t, hs⟩ : ∃ c d e t, s = c :: d :: e :: t := by
          match s, cl with
          | c :: d :: e :: t, _ => exact ⟨c, d, e, t, rfl⟩
        have bc : c < 256 := hb c (by rw [hs]; simp)
        have gc : s[0]? = some c := by rw [hs]; rfl
        have vc : ∀ {k : V → Out}, convInt .i64 (c : Int) k = k (.int .i64 (c : Int)) := convInt_i64 (by omega) (by omega)
        have bd : d < 256 := hb d (by rw [hs]; simp)
        have gd : s[1]? = some d := by rw [hs]; rfl
        have vd : ∀ {k : V → Out}, convInt .i64 (d : Int) k = k (.int .i64 (d : Int)) := convInt_i64 (by omega) (by omega)
        have be : e < 256 := hb e (by rw [hs]; simp)
        have ge : s[2]? = some e := by rw [hs]; rfl
        have ve : ∀ {k : V → Out}, convInt .i64 (e : Int) k = k (.int .i64 (e : Int)) := convInt_i64 (by omega) (by omega)
        have cl2 : ((3 : Int) ≤ (s.length : Int)) = True := eq_true (by omega)
        have c42 : ((3 : Int) ≤ 4) = True := eq_true (by omega)
        have z0 : ∀ {k : V → Out}, intBin .mul .i64 64 .i64 0 k = k (.int .i64 0) := fun {k} => mul_nat (a := 64) (b := 0) (by omega)
        have w0 : ∀ {k : V → Out}, intBin .rem .i64 (c : Int) .i64 16 k = k (.int .i64 ((c % 16 : Nat) : Int)) := rem_nat (b := 16) (by omega)
        have s0' : (0 : Int) + ((c % 16 : Nat) : Int) = ((c % 16 : Nat) : Int) := by omega
        have w1 : ∀ {k : V → Out}, intBin .rem .i64 (d : Int) .i64 64 k = k (.int .i64 ((d % 64 : Nat) : Int)) := rem_nat (b := 64) (by omega)
        have m1 : ∀ {k : V → Out}, intBin .mul .i64 64 .i64 ((c % 16 : Nat) : Int) k = k (.int .i64 ((64 * (c % 16) : Nat) : Int)) := mul_nat (a := 64) (by omega)
        have s1' : ((64 * (c % 16) : Nat) : Int) + ((d % 64 : Nat) : Int) = ((64 * (c % 16) + d % 64 : Nat) : Int) := by omega
        have w2 : ∀ {k : V → Out}, intBin .rem .i64 (e : Int) .i64 64 k = k (.int .i64 ((e % 64 : Nat) : Int)) := rem_nat (b := 64) (by omega)
        have m2 : ∀ {k : V → Out}, intBin .mul .i64 64 .i64 ((64 * (c % 16) + d % 64 : Nat) : Int) k = k (.int .i64 ((64 * (64 * (c % 16) + d % 64) : Nat) : Int)) := mul_nat (a := 64) (by omega)
        have s2' : ((64 * (64 * (c % 16) + d % 64) : Nat) : Int) + ((e % 64 : Nat) : Int) = ((64 * (64 * (c % 16) + d % 64) + e % 64 : Nat) : Int) := by omega
        simp (maxSteps := 2000000) (disch := first | omega | assumption) only [↓mCode, ↓mOps, mAll, seval, vPtr, ite_ne, wrap_i64, boundN_int, fn161, Tryz.f161, tb3', convK_53, r0, r4, c42, cl2]
        refine W_loopE (fun q regs h9 n9 => ∃ i r : Nat, q = 3 - i ∧ i ≤ 3 ∧ regs.get 0 = some (.str s) ∧ regs.get 4 = some (.int .i64 3) ∧ regs.get 5 = some (.int .i64 (r : Int)) ∧ regs.get 6 = some (.int .i64 (i : Int)) ∧ ((i = 0 ∧ r = 0) ∨ (i = 1 ∧ r = c % 16) ∨ (i = 2 ∧ r = 64 * (c % 16) + d % 64) ∨ (i = 3 ∧ r = 64 * (64 * (c % 16) + d % 64) + e % 64)) ∧ Gro h n h9 n9)
          (fun regs h9 n9 => regs.get 0 = some (.str s) ∧ regs.get 4 = some (.int .i64 3) ∧ regs.get 5 = some (.int .i64 ((64 * (64 * (c % 16) + d % 64) + e % 64 : Nat) : Int)) ∧ Gro h n h9 n9)
          _ ⟨0, 0, rfl, by omega, ?_, ?_, ?_, ?_, .inl ⟨rfl, rfl⟩, G⟩ ?_ ?_
        iterate 4
          · simp only [mBase, Nat.reduceEqDiff, Nat.reduceSub, reduceIte, r0, r4] <;> rfl
        · rintro t2 hexit q regs h9 n9 ⟨i, r, e0, hi, r0, r4, r5, r6, hacc, G⟩ IH2
          rcases hacc with ⟨rfl, rfl⟩ | ⟨rfl, rfl⟩ | ⟨rfl, rfl⟩ | ⟨rfl, rfl⟩
          · simp (maxSteps := 2000000) (disch := first | omega | assumption) only [↓mCode, ↓mOps, mAll, seval, vPtr, ite_ne, wrap_i64, boundN_int, fn161, Tryz.f161, tb3', convK_53, r0, r4, r5, r6, gc, vc, z0, w0, s0']
            exact IH2 (3 - 1) _ _ _ (by omega) ⟨1, c % 16, rfl, by omega, by simp only [mBase, Nat.reduceEqDiff, Nat.reduceSub, reduceIte, r0], by simp only [mBase, Nat.reduceEqDiff, Nat.reduceSub, reduceIte, r4], by simp only [mBase, Nat.reduceEqDiff, Nat.reduceSub, reduceIte, r0], by simp only [mBase, Nat.reduceEqDiff, Nat.reduceSub, reduceIte, r0] <;> rfl, .inr (.inl ⟨rfl, rfl⟩), G.put _⟩
          · simp (maxSteps := 2000000) (disch := first | omega | assumption) only [↓mCode, ↓mOps, mAll, seval, vPtr, ite_ne, wrap_i64, boundN_int, fn161, Tryz.f161, tb3', convK_53, r0, r4, r5, r6, gd, vd, w1, m1, s1']
            exact IH2 (3 - 2) _ _ _ (by omega) ⟨2, 64 * (c % 16) + d % 64, rfl, by omega, by simp only [mBase, Nat.reduceEqDiff, Nat.reduceSub, reduceIte, r0], by simp only [mBase, Nat.reduceEqDiff, Nat.reduceSub, reduceIte, r4], by simp only [mBase, Nat.reduceEqDiff, Nat.reduceSub, reduceIte, r0], by simp only [mBase, Nat.reduceEqDiff, Nat.reduceSub, reduceIte, r0] <;> rfl, .inr (.inr (.inl ⟨rfl, rfl⟩)), G⟩
          · simp (maxSteps := 2000000) (disch := first | omega | assumption) only [↓mCode, ↓mOps, mAll, seval, vPtr, ite_ne, wrap_i64, boundN_int, fn161, Tryz.f161, tb3', convK_53, r0, r4, r5, r6, ge, ve, w2, m2, s2']
            exact IH2 (3 - 3) _ _ _ (by omega) ⟨3, 64 * (64 * (c % 16) + d % 64) + e % 64, rfl, by omega, by simp only [mBase, Nat.reduceEqDiff, Nat.reduceSub, reduceIte, r0], by simp only [mBase, Nat.reduceEqDiff, Nat.reduceSub, reduceIte, r4], by simp only [mBase, Nat.reduceEqDiff, Nat.reduceSub, reduceIte, r0], by simp only [mBase, Nat.reduceEqDiff, Nat.reduceSub, reduceIte, r0] <;> rfl, .inr (.inr (.inr (⟨rfl, rfl⟩))), G⟩
          · simp (maxSteps := 2000000) (disch := first | omega | assumption) only [↓mCode, ↓mOps, mAll, seval, vPtr, ite_ne, wrap_i64, boundN_int, fn161, Tryz.f161, tb3', convK_53, r0, r4, r5, r6]
            exact hexit _ _ _ ⟨by simp only [mBase, Nat.reduceEqDiff, Nat.reduceSub, reduceIte, r0], by simp only [mBase, Nat.reduceEqDiff, Nat.reduceSub, reduceIte, r4], by simp only [mBase, Nat.reduceEqDiff, Nat.reduceSub, reduceIte, r5], G⟩
        · rintro regs h9 n9 ⟨r0, r4, r5, G⟩
          have st := step3 (t := t) bc bd be
          rw [← hs] at st
          have ea : acc3 c d e = 64 * (64 * (c % 16) + d % 64) + e % 64 := rfl
          rw [ea] at st
          have es : s.take 3 = [c, d, e] := by rw [hs]; rfl
          have un : ∀ x, getR s = some (x, 3) → x = 64 * (64 * (c % 16) + d % 64) + e % 64 := fun x e => by rw [hs] at e; exact uniq3 e
          generalize 64 * (64 * (c % 16) + d % 64) + e % 64 = r at *
          simp (maxSteps := 2000000) (disch := first | omega | assumption) only [↓mCode, ↓mOps, mAll, seval, vPtr, ite_ne, wrap_i64, boundN_int, fn161, Tryz.f161, tb3', convK_53, r0, r4, r5]
          refine W_draw sr161_14 ss161_14 ?_ ?_
          · exact sk161_14
          simp (maxSteps := 2000000) (disch := first | omega | assumption) only [↓mCode, ↓mOps, mAll, seval, vPtr, ite_ne, wrap_i64, boundN_int, fn161, Tryz.f161, tb3', convK_53, r0, r4, r5]
          refine may01_ok.call e0_hook e0_subs ?_
          rintro _ h9 n9 ⟨rfl, rfl, rfl⟩
          by_cases hm : mayR r = true
          · simp (maxSteps := 2000000) (disch := first | omega | assumption) only [↓mCode, ↓mOps, mAll, seval, vPtr, ite_ne, wrap_i64, boundN_int, fn161, Tryz.f161, tb3', convK_53, r0, r4, r5, hm]
            refine (put01_ok hm).call e0_hook e0_subs ?_
            rintro _ _ _ ⟨rfl, rfl, rfl⟩
            have cv : ∀ {k : V → Out}, convK tys (h9.put n9 (some (.cells (ofT ((putR r).map fun b : Nat => V.int .u8 (b : Int))) (putR r).length 1))) 165 9 (.slice n9 0 (putR r).length true (putR r).length (putR r).length) k = k (.str (putR r)) := bytesStr (T.get_put _ _ _ _ |>.trans (if_pos rfl)) (putR_bytes hm)
            by_cases hp : putR r = [c, d, e]
            · have hp' : (putR r = s.take 3) = True := eq_true (by rw [es]; exact hp)
              simp (maxSteps := 2000000) (disch := first | omega | assumption) only [↓mCode, ↓mOps, mAll, seval, vPtr, ite_ne, wrap_i64, boundN_int, fn161, Tryz.f161, tb3', convK_53, tb9', cv, r0, r4, r5, cl2, hp']
              have hg := st.1 ⟨hm, hp⟩
              exact K _ _ _ ⟨by unfold get01V; rw [hg] <;> rfl, G.put _⟩
            · have hp' : (putR r = s.take 3) = False := eq_false (by rw [es]; exact hp)
              simp (maxSteps := 2000000) (disch := first | omega | assumption) only [↓mCode, ↓mOps, mAll, seval, vPtr, ite_ne, wrap_i64, boundN_int, fn161, Tryz.f161, tb3', convK_53, tb9', cv, r0, r4, r5, cl2, hp']
              refine IH (5 - 4) _ _ _ (by omega) ⟨4, rfl, by omega, by omega, by simp only [mBase, Nat.reduceEqDiff, Nat.reduceSub, reduceIte, r0], by simp only [mBase, Nat.reduceEqDiff, Nat.reduceSub, reduceIte, r4] <;> rfl, fun x j hj e => ?_, G.put _⟩
              by_cases ej : j = 3
              · subst ej; exact hp (st.2 (by rw [e, un x e])).2
              · exact hx x j (by omega) e
          · have hm' : mayR r = false := by simpa using hm
            simp (maxSteps := 2000000) (disch := first | omega | assumption) only [↓mCode, ↓mOps, mAll, seval, vPtr, ite_ne, wrap_i64, boundN_int, fn161, Tryz.f161, tb3', convK_53, r0, r4, r5, hm']
            refine IH (5 - 4) _ _ _ (by omega) ⟨4, rfl, by omega, by omega, by simp only [mBase, Nat.reduceEqDiff, Nat.reduceSub, reduceIte, r0], by simp only [mBase, Nat.reduceEqDiff, Nat.reduceSub, reduceIte, r4] <;> rfl, fun x j hj e => ?_, G⟩
            by_cases ej : j = 3
            · subst ej; exact hm (st.2 (by rw [e, un x e])).1
            · exact hx x j (by omega) e
      · obtain ⟨c, d, e, f, t, hs⟩ : ∃ c d e f t, s = c :: d :: e :: f :: t := by
          match s, cl with
          | c :: d :: e :: f :: t, _ => exact ⟨c, d, e, f, t, rfl⟩
        have bc : c < 256 := hb c (by rw [hs]; simp)
        have gc : s[0]? = some c := by rw [hs]; rfl
        have vc : ∀ {k : V → Out}, convInt .i64 (c : Int) k = k (.int .i64 (c : Int)) := convInt_i64 (by omega) (by omega)
        have bd : d < 256 := hb d (by rw [hs]; simp)
        have gd : s[1]? = some d := by rw [hs]; rfl
        have vd : ∀ {k : V → Out}, convInt .i64 (d : Int) k = k (.int .i64 (d : Int)) := convInt_i64 (by omega) (by omega)
        have be : e < 256 := hb e (by rw [hs]; simp)
        have ge : s[2]? = some e := by rw [hs]; rfl
        have ve : ∀ {k : V → Out}, convInt .i64 (e : Int) k = k (.int .i64 (e : Int)) := convInt_i64 (by omega) (by omega)
        have bf : f < 256 := hb f (by rw [hs]; simp)
        have gf : s[3]? = some f := by rw [hs]; rfl
        have vf : ∀ {k : V → Out}, convInt .i64 (f : Int) k = k (.int .i64 (f : Int)) := convInt_i64 (by omega) (by omega)
        have cl2 : ((4 : Int) ≤ (s.length : Int)) = True := eq_true (by omega)
        have c42 : ((4 : Int) ≤ 4) = True := eq_true (by omega)
        have z0 : ∀ {k : V → Out}, intBin .mul .i64 64 .i64 0 k = k (.int .i64 0) := fun {k} => mul_nat (a := 64) (b := 0) (by omega)
        have w0 : ∀ {k : V → Out}, intBin .rem .i64 (c : Int) .i64 8 k = k (.int .i64 ((c % 8 : Nat) : Int)) := rem_nat (b := 8) (by omega)
        have s0' : (0 : Int) + ((c % 8 : Nat) : Int) = ((c % 8 : Nat) : Int) := by omega
        have w1 : ∀ {k : V → Out}, intBin .rem .i64 (d : Int) .i64 64 k = k (.int .i64 ((d % 64 : Nat) : Int)) := rem_nat (b := 64) (by omega)
        have m1 : ∀ {k : V → Out}, intBin .mul .i64 64 .i64 ((c % 8 : Nat) : Int) k = k (.int .i64 ((64 * (c % 8) : Nat) : Int)) := mul_nat (a := 64) (by omega)
        have s1' : ((64 * (c % 8) : Nat) : Int) + ((d % 64 : Nat) : Int) = ((64 * (c % 8) + d % 64 : Nat) : Int) := by omega
        have w2 : ∀ {k : V → Out}, intBin .rem .i64 (e : Int) .i64 64 k = k (.int .i64 ((e % 64 : Nat) : Int)) := rem_nat (b := 64) (by omega)
        have m2 : ∀ {k : V → Out}, intBin .mul .i64 64 .i64 ((64 * (c % 8) + d % 64 : Nat) : Int) k = k (.int .i64 ((64 * (64 * (c % 8) + d % 64) : Nat) : Int)) := mul_nat (a := 64) (by omega)
        have s2' : ((64 * (64 * (c % 8) + d % 64) : Nat) : Int) + ((e % 64 : Nat) : Int) = ((64 * (64 * (c % 8) + d % 64) + e % 64 : Nat) : Int) := by omega
        have w3 : ∀ {k : V → Out}, intBin .rem .i64 (f : Int) .i64 64 k = k (.int .i64 ((f % 64 : Nat) : Int)) := rem_nat (b := 64) (by omega)
        have m3 : ∀ {k : V → Out}, intBin .mul .i64 64 .i64 ((64 * (64 * (c % 8) + d % 64) + e % 64 : Nat) : Int) k = k (.int .i64 ((64 * (64 * (64 * (c % 8) + d % 64) + e % 64) : Nat) : Int)) := mul_nat (a := 64) (by omega)
        have s3' : ((64 * (64 * (64 * (c % 8) + d % 64) + e % 64) : Nat) : Int) + ((f % 64 : Nat) : Int) = ((64 * (64 * (64 * (c % 8) + d % 64) + e % 64) + f % 64 : Nat) : Int) := by omega
        simp (maxSteps := 2000000) (disch := first | omega | assumption) only [↓mCode, ↓mOps, mAll, seval, vPtr, ite_ne, wrap_i64, boundN_int, fn161, Tryz.f161, tb3', convK_53, r0, r4, c42, cl2]
        refine W_loopE (fun q regs h9 n9 => ∃ i r : Nat, q = 4 - i ∧ i ≤ 4 ∧ regs.get 0 = some (.str s) ∧ regs.get 4 = some (.int .i64 4) ∧ regs.get 5 = some (.int .i64 (r : Int)) ∧ regs.get 6 = some (.int .i64 (i : Int)) ∧ ((i = 0 ∧ r = 0) ∨ (i = 1 ∧ r = c % 8) ∨ (i = 2 ∧ r = 64 * (c % 8) + d % 64) ∨ (i = 3 ∧ r = 64 * (64 * (c % 8) + d % 64) + e % 64) ∨ (i = 4 ∧ r = 64 * (64 * (64 * (c % 8) + d % 64) + e % 64) + f % 64)) ∧ Gro h n h9 n9)
          (fun regs h9 n9 => regs.get 0 = some (.str s) ∧ regs.get 4 = some (.int .i64 4) ∧ regs.get 5 = some (.int .i64 ((64 * (64 * (64 * (c % 8) + d % 64) + e % 64) + f % 64 : Nat) : Int)) ∧ Gro h n h9 n9)
          _ ⟨0, 0, rfl, by omega, ?_, ?_, ?_, ?_, .inl ⟨rfl, rfl⟩, G⟩ ?_ ?_
        iterate 4
          · simp only [mBase, Nat.reduceEqDiff, Nat.reduceSub, reduceIte, r0, r4] <;> rfl
        · rintro t2 hexit q regs h9 n9 ⟨i, r, e0, hi, r0, r4, r5, r6, hacc, G⟩ IH2
          rcases hacc with ⟨rfl, rfl⟩ | ⟨rfl, rfl⟩ | ⟨rfl, rfl⟩ | ⟨rfl, rfl⟩ | ⟨rfl, rfl⟩
          · simp (maxSteps := 2000000) (disch := first | omega | assumption) only [↓mCode, ↓mOps, mAll, seval, vPtr, ite_ne, wrap_i64, boundN_int, fn161, Tryz.f161, tb3', convK_53, r0, r4, r5, r6, gc, vc, z0, w0, s0']
            exact IH2 (4 - 1) _ _ _ (by omega) ⟨1, c % 8, rfl, by omega, by simp only [mBase, Nat.reduceEqDiff, Nat.reduceSub, reduceIte, r0], by simp only [mBase, Nat.reduceEqDiff, Nat.reduceSub, reduceIte, r4], by simp only [mBase, Nat.reduceEqDiff, Nat.reduceSub, reduceIte, r0], by simp only [mBase, Nat.reduceEqDiff, Nat.reduceSub, reduceIte, r0] <;> rfl, .inr (.inl ⟨rfl, rfl⟩), G.put _⟩
          · simp (maxSteps := 2000000) (disch := first | omega | assumption) only [↓mCode, ↓mOps, mAll, seval, vPtr, ite_ne, wrap_i64, boundN_int, fn161, Tryz.f161, tb3', convK_53, r0, r4, r5, r6, gd, vd, w1, m1, s1']
            exact IH2 (4 - 2) _ _ _ (by omega) ⟨2, 64 * (c % 8) + d % 64, rfl, by omega, by simp only [mBase, Nat.reduceEqDiff, Nat.reduceSub, reduceIte, r0], by simp only [mBase, Nat.reduceEqDiff, Nat.reduceSub, reduceIte, r4], by simp only [mBase, Nat.reduceEqDiff, Nat.reduceSub, reduceIte, r0], by simp only [mBase, Nat.reduceEqDiff, Nat.reduceSub, reduceIte, r0] <;> rfl, .inr (.inr (.inl ⟨rfl, rfl⟩)), G⟩
          · simp (maxSteps := 2000000) (disch := first | omega | assumption) only [↓mCode, ↓mOps, mAll, seval, vPtr, ite_ne, wrap_i64, boundN_int, fn161, Tryz.f161, tb3', convK_53, r0, r4, r5, r6, ge, ve, w2, m2, s2']
            exact IH2 (4 - 3) _ _ _ (by omega) ⟨3, 64 * (64 * (c % 8) + d % 64) + e % 64, rfl, by omega, by simp only [mBase, Nat.reduceEqDiff, Nat.reduceSub, reduceIte, r0], by simp only [mBase, Nat.reduceEqDiff, Nat.reduceSub, reduceIte, r4], by simp only [mBase, Nat.reduceEqDiff, Nat.reduceSub, reduceIte, r0], by simp only [mBase, Nat.reduceEqDiff, Nat.reduceSub, reduceIte, r0] <;> rfl, .inr (.inr (.inr (.inl ⟨rfl, rfl⟩))), G⟩
          · simp (maxSteps := 2000000) (disch := first | omega | assumption) only [↓mCode, ↓mOps, mAll, seval, vPtr, ite_ne, wrap_i64, boundN_int, fn161, Tryz.f161, tb3', convK_53, r0, r4, r5, r6, gf, vf, w3, m3, s3']
            exact IH2 (4 - 4) _ _ _ (by omega) ⟨4, 64 * (64 * (64 * (c % 8) + d % 64) + e % 64) + f % 64, rfl, by omega, by simp only [mBase, Nat.reduceEqDiff, Nat.reduceSub, reduceIte, r0], by simp only [mBase, Nat.reduceEqDiff, Nat.reduceSub, reduceIte, r4], by simp only [mBase, Nat.reduceEqDiff, Nat.reduceSub, reduceIte, r0], by simp only [mBase, Nat.reduceEqDiff, Nat.reduceSub, reduceIte, r0] <;> rfl, .inr (.inr (.inr (.inr (⟨rfl, rfl⟩)))), G⟩
          · simp (maxSteps := 2000000) (disch := first | omega | assumption) only [↓mCode, ↓mOps, mAll, seval, vPtr, ite_ne, wrap_i64, boundN_int, fn161, Tryz.f161, tb3', convK_53, r0, r4, r5, r6]
            exact hexit _ _ _ ⟨by simp only [mBase, Nat.reduceEqDiff, Nat.reduceSub, reduceIte, r0], by simp only [mBase, Nat.reduceEqDiff, Nat.reduceSub, reduceIte, r4], by simp only [mBase, Nat.reduceEqDiff, Nat.reduceSub, reduceIte, r5], G⟩
        · rintro regs h9 n9 ⟨r0, r4, r5, G⟩
          have st := step4 (t := t) bc bd be bf
          rw [← hs] at st
          have ea : acc4 c d e f = 64 * (64 * (64 * (c % 8) + d % 64) + e % 64) + f % 64 := rfl
          rw [ea] at st
          have es : s.take 4 = [c, d, e, f] := by rw [hs]; rfl
          have un : ∀ x, getR s = some (x, 4) → x = 64 * (64 * (64 * (c % 8) + d % 64) + e % 64) + f % 64 := fun x e => by rw [hs] at e; exact uniq4 e
          generalize 64 * (64 * (64 * (c % 8) + d % 64) + e % 64) + f % 64 = r at *
          simp (maxSteps := 2000000) (disch := first | omega | assumption) only [↓mCode, ↓mOps, mAll, seval, vPtr, ite_ne, wrap_i64, boundN_int, fn161, Tryz.f161, tb3', convK_53, r0, r4, r5]
          refine W_draw sr161_14 ss161_14 ?_ ?_
          · exact sk161_14
          simp (maxSteps := 2000000) (disch := first | omega | assumption) only [↓mCode, ↓mOps, mAll, seval, vPtr, ite_ne, wrap_i64, boundN_int, fn161, Tryz.f161, tb3', convK_53, r0, r4, r5]
          refine may01_ok.call e0_hook e0_subs ?_
          rintro _ h9 n9 ⟨rfl, rfl, rfl⟩
          by_cases hm : mayR r = true
          · simp (maxSteps := 2000000) (disch := first | omega | assumption) only [↓mCode, ↓mOps, mAll, seval, vPtr, ite_ne, wrap_i64, boundN_int, fn161, Tryz.f161, tb3', convK_53, r0, r4, r5, hm]
            refine (put01_ok hm).call e0_hook e0_subs ?_
            rintro _ _ _ ⟨rfl, rfl, rfl⟩
            have cv : ∀ {k : V → Out}, convK tys (h9.put n9 (some (.cells (ofT ((putR r).map fun b : Nat => V.int .u8 (b : Int))) (putR r).length 1))) 165 9 (.slice n9 0 (putR r).length true (putR r).length (putR r).length) k = k (.str (putR r)) := bytesStr (T.get_put _ _ _ _ |>.trans (if_pos rfl)) (putR_bytes hm)
            by_cases hp : putR r = [c, d, e, f]
            · have hp' : (putR r = s.take 4) = True := eq_true (by rw [es]; exact hp)
              simp (maxSteps := 2000000) (disch := first | omega | assumption) only [↓mCode, ↓mOps, mAll, seval, vPtr, ite_ne, wrap_i64, boundN_int, fn161, Tryz.f161, tb3', convK_53, tb9', cv, r0, r4, r5, cl2, hp']
              have hg := st.1 ⟨hm, hp⟩
              exact K _ _ _ ⟨by unfold get01V; rw [hg] <;> rfl, G.put _⟩
            · have hp' : (putR r = s.take 4) = False := eq_false (by rw [es]; exact hp)
              simp (maxSteps := 2000000) (disch := first | omega | assumption) only [↓mCode, ↓mOps, mAll, seval, vPtr, ite_ne, wrap_i64, boundN_int, fn161, Tryz.f161, tb3', convK_53, tb9', cv, r0, r4, r5, cl2, hp']
              refine IH (5 - 5) _ _ _ (by omega) ⟨5, rfl, by omega, by omega, by simp only [mBase, Nat.reduceEqDiff, Nat.reduceSub, reduceIte, r0], by simp only [mBase, Nat.reduceEqDiff, Nat.reduceSub, reduceIte, r4] <;> rfl, fun x j hj e => ?_, G.put _⟩
              by_cases ej : j = 4
              · subst ej; exact hp (st.2 (by rw [e, un x e])).2
              · exact hx x j (by omega) e
          · have hm' : mayR r = false := by simpa using hm
            simp (maxSteps := 2000000) (disch := first | omega | assumption) only [↓mCode, ↓mOps, mAll, seval, vPtr, ite_ne, wrap_i64, boundN_int, fn161, Tryz.f161, tb3', convK_53, r0, r4, r5, hm']
            refine IH (5 - 5) _ _ _ (by omega) ⟨5, rfl, by omega, by omega, by simp only [mBase, Nat.reduceEqDiff, Nat.reduceSub, reduceIte, r0], by simp only [mBase, Nat.reduceEqDiff, Nat.reduceSub, reduceIte, r4] <;> rfl, fun x j hj e => ?_, G⟩
            by_cases ej : j = 4
            · subst ej; exact hm (st.2 (by rw [e, un x e])).1
            · exact hx x j (by omega) e
    · have cl' : ((m : Int) ≤ (s.length : Int)) = False := eq_false (by omega)
      have hg : getR s = none := by
        cases e : getR s with
        | none => rfl
        | some p => obtain ⟨x, j⟩ := p; exact absurd e (hx x j (by have := (getR_some e).2.2; omega))
      simp (maxSteps := 2000000) (disch := first | omega | assumption) only [↓mCode, ↓mOps, mAll, seval, vPtr, ite_ne, wrap_i64, boundN_int, fn161, Tryz.f161, r0, r4, c4', cl']
      exact K _ _ _ ⟨by unfold get01V; rw [hg], G⟩
  · have c4' : ((m : Int) ≤ 4) = False := eq_false (by omega)
    have hg : getR s = none := by
      cases e : getR s with
      | none => rfl
      | some p => obtain ⟨x, j⟩ := p; exact absurd e (hx x j (by have := (getR_some e).2.1; omega))
    simp (maxSteps := 2000000) (disch := first | omega | assumption) only [↓mCode, ↓mOps, mAll, seval, vPtr, ite_ne, wrap_i64, boundN_int, fn161, Tryz.f161, r0, r4, c4']
    exact K _ _ _ ⟨by unfold get01V; rw [hg], G⟩
end Go.Mir
