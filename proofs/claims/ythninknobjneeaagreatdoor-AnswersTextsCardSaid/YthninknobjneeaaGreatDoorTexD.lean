/- Walks: bits; the runes of bytes. -/
import Derived.Test.YthninknobjneeaaGreatDoorTexB
set_option linter.unusedSimpArgs false
set_option linter.unusedVariables false
namespace Go.Mir
open Go Go.Proofs
set_option maxRecDepth 4000
set_option maxHeartbeats 8000000

theorem digitT_ok {c : Nat} {h : T O} {n : Nat} : Fn env0 156 [.int .u8 (c : Int)] h n (fun v h' n' => v = .bool (digitB c) ∧ h' = h ∧ n' = n) := by
  refine Fn.mk fn156 rfl fz156 (by simp) fun Q cs K => ?_
  by_cases c1 : 48 ≤ c
  · have c1' : ((48 : Int) ≤ (c : Int)) = True := eq_true (by omega)
    have e : digitB c = decide ((c : Int) ≤ 57) := by
      unfold digitB; rw [decide_eq_true c1, Bool.true_and]
      exact decide_eq_decide.2 (by omega)
    simp (maxSteps := 2000000) (disch := first | omega | assumption) only [↓mCode, ↓mOps, mAll, seval, vPtr, ite_ne, wrap_i64, boundN_int, fn156, Tryz.f156, c1']
    exact K _ _ _ ⟨by rw [e], rfl, rfl⟩
  · have c1' : ((48 : Int) ≤ (c : Int)) = False := eq_false (by omega)
    have e : digitB c = false := by unfold digitB; rw [decide_eq_false c1, Bool.false_and]
    simp (maxSteps := 2000000) (disch := first | omega | assumption) only [↓mCode, ↓mOps, mAll, seval, vPtr, ite_ne, wrap_i64, boundN_int, fn156, Tryz.f156, c1']
    exact K _ _ _ ⟨by rw [e], rfl, rfl⟩

theorem letterT_ok {c : Nat} {h : T O} {n : Nat} : Fn env0 155 [.int .u8 (c : Int)] h n (fun v h' n' => v = .bool (letterB c) ∧ h' = h ∧ n' = n) := by
  refine Fn.mk fn155 rfl fz155 (by simp) fun Q cs K => ?_
  rcases (by omega : c < 65 ∨ (65 ≤ c ∧ c ≤ 90) ∨ (91 ≤ c ∧ c ≤ 96) ∨ (97 ≤ c ∧ c ≤ 122) ∨ 123 ≤ c) with q | q | q | q | q
  all_goals
    first | (have f1 : ((65 : Int) ≤ (c : Int)) = True := eq_true (by omega)) | (have f1 : ((65 : Int) ≤ (c : Int)) = False := eq_false (by omega))
    first | (have f2 : ((c : Int) ≤ 90) = True := eq_true (by omega)) | (have f2 : ((c : Int) ≤ 90) = False := eq_false (by omega))
    first | (have f3 : ((97 : Int) ≤ (c : Int)) = True := eq_true (by omega)) | (have f3 : ((97 : Int) ≤ (c : Int)) = False := eq_false (by omega))
    first | (have f4 : ((c : Int) ≤ 122) = True := eq_true (by omega)) | (have f4 : ((c : Int) ≤ 122) = False := eq_false (by omega))
    simp (maxSteps := 2000000) (disch := first | omega | assumption) only [↓mCode, ↓mOps, mAll, seval, vPtr, ite_ne, wrap_i64, boundN_int, fn155, Tryz.f155, f1, f2, f3, f4]
    refine K _ _ _ ⟨?_, rfl, rfl⟩
    congr 1
    simp only [letterB]
    simp
    omega

/-- the reference's Word -/
theorem word02_ok {s : List Nat} {m : Nat} {h : T O} {n : Nat} (hl : s.length ≤ 9223372036854775806) : Fn env0 45 [.str s, .int .i64 (m : Int)] h n (fun v h' n' => v = .bool (wordB s m) ∧ h' = h ∧ n' = n) := by
  refine Fn.mk fn45 rfl fz45 (by simp) fun Q cs K => ?_
  by_cases l1 : s.length < 1
  · have l1' : ((s.length : Int) < 1) = True := eq_true (by omega)
    simp (maxSteps := 2000000) (disch := first | omega | assumption) only [↓mCode, ↓mOps, mAll, seval, vPtr, ite_ne, wrap_i64, boundN_int, fn45, Tryz.f45, l1']
    exact K _ _ _ ⟨by rw [wordB_f fun h => absurd h.1 (by omega)], rfl, rfl⟩
  have l1' : ((s.length : Int) < 1) = False := eq_false (by omega)
  by_cases l2 : s.length > m
  · have l2' : ((s.length : Int) > (m : Int)) = True := eq_true (by omega)
    simp (maxSteps := 2000000) (disch := first | omega | assumption) only [↓mCode, ↓mOps, mAll, seval, vPtr, ite_ne, wrap_i64, boundN_int, fn45, Tryz.f45, l1', l2']
    exact K _ _ _ ⟨by rw [wordB_f fun h => absurd h.2.1 (by omega)], rfl, rfl⟩
  have l2' : ((s.length : Int) > (m : Int)) = False := eq_false (by omega)
  obtain ⟨c0, hc0⟩ : ∃ x, s[0]? = some x := ⟨_, List.getElem?_eq_getElem (by omega)⟩
  simp (maxSteps := 2000000) (disch := first | omega | assumption) only [↓mCode, ↓mOps, mAll, seval, vPtr, ite_ne, wrap_i64, boundN_int, fn45, Tryz.f45, l1', l2', hc0]
  refine letter02_ok.call e0_hook e0_subs ?_
  rintro _ h n ⟨rfl, rfl, rfl⟩
  by_cases b0 : letterB c0 = true
  · simp (maxSteps := 2000000) (disch := first | omega | assumption) only [↓mCode, ↓mOps, mAll, seval, vPtr, ite_ne, wrap_i64, boundN_int, fn45, Tryz.f45, b0, Bool.not_true]
    refine W_loop (fun q regs h' n' => ∃ i : Nat, q = s.length - i ∧ i ≤ s.length ∧ regs.get 0 = some (.str s) ∧ regs.get 5 = some (.int .i64 (i : Int)) ∧ (∀ j x, j < i → s[j]? = some x → letterB x = true ∨ (j ≠ 0 ∧ digitB x = true)) ∧ h' = h ∧ n' = n)
      _ ⟨0, rfl, by omega, ?_, ?_, fun j x hj => absurd hj (by omega), rfl, rfl⟩ ?_
    iterate 2
      · simp only [mBase, Nat.reduceEqDiff, Nat.reduceSub, reduceIte] <;> rfl
    rintro q regs h' n' ⟨i, rfl, hi, r0, r5, hx, rfl, rfl⟩ IH
    by_cases c1 : i < s.length
    · have c1' : (i : Int) < (s.length : Int) := by omega
      obtain ⟨c, hc⟩ : ∃ x, s[i]? = some x := ⟨_, List.getElem?_eq_getElem c1⟩
      simp (maxSteps := 2000000) (disch := first | omega | assumption) only [↓mCode, ↓mOps, mAll, seval, vPtr, ite_ne, wrap_i64, boundN_int, fn45, Tryz.f45, r0, r5, c1', hc]
      refine letter02_ok.call e0_hook e0_subs ?_
      rintro _ h' n' ⟨rfl, rfl, rfl⟩
      by_cases b1 : letterB c = true
      · simp (maxSteps := 2000000) (disch := first | omega | assumption) only [↓mCode, ↓mOps, mAll, seval, vPtr, ite_ne, wrap_i64, boundN_int, fn45, Tryz.f45, r0, r5, hc, b1, Bool.not_true]
        exact IH (s.length - (i + 1)) _ _ _ (by omega) ⟨i + 1, rfl, by omega, by simp only [mBase, Nat.reduceEqDiff, Nat.reduceSub, reduceIte, r0], by simp only [mBase, Nat.reduceEqDiff, Nat.reduceSub, reduceIte, r5] <;> rfl, wordP_step hx hc (.inl b1), rfl, rfl⟩
      · have b1' : letterB c = false := by simpa using b1
        simp (maxSteps := 2000000) (disch := first | omega | assumption) only [↓mCode, ↓mOps, mAll, seval, vPtr, ite_ne, wrap_i64, boundN_int, fn45, Tryz.f45, r0, r5, hc, b1', Bool.not_false]
        refine digit02_ok.call e0_hook e0_subs ?_
        rintro _ h' n' ⟨rfl, rfl, rfl⟩
        by_cases b2 : digitB c = true
        · simp (maxSteps := 2000000) (disch := first | omega | assumption) only [↓mCode, ↓mOps, mAll, seval, vPtr, ite_ne, wrap_i64, boundN_int, fn45, Tryz.f45, r0, r5, hc, b2, Bool.not_true]
          have i0 : i ≠ 0 := by
            rintro rfl
            rw [hc0] at hc; cases hc; exact b1 b0
          exact IH (s.length - (i + 1)) _ _ _ (by omega) ⟨i + 1, rfl, by omega, by simp only [mBase, Nat.reduceEqDiff, Nat.reduceSub, reduceIte, r0], by simp only [mBase, Nat.reduceEqDiff, Nat.reduceSub, reduceIte, r5] <;> rfl, wordP_step hx hc (.inr ⟨i0, b2⟩), rfl, rfl⟩
        · have b2' : digitB c = false := by simpa using b2
          simp (maxSteps := 2000000) (disch := first | omega | assumption) only [↓mCode, ↓mOps, mAll, seval, vPtr, ite_ne, wrap_i64, boundN_int, fn45, Tryz.f45, r0, r5, hc, b2', Bool.not_false]
          exact K _ _ _ ⟨by rw [wordB_f fun h => (h.2.2 i c hc).elim b1 fun h => b2 h.2], rfl, rfl⟩
    · have c1' : ¬ (i : Int) < (s.length : Int) := by omega
      have hp : wordP s := fun j x hjx => hx j x (by have := (List.getElem?_eq_some_iff.1 hjx).1; omega) hjx
      simp (maxSteps := 2000000) (disch := first | omega | assumption) only [↓mCode, ↓mOps, mAll, seval, vPtr, ite_ne, wrap_i64, boundN_int, fn45, Tryz.f45, r0, r5, c1']
      exact K _ _ _ ⟨by rw [wordB_t ⟨by omega, by omega, hp⟩], rfl, rfl⟩
  · have b0' : letterB c0 = false := by simpa using b0
    simp (maxSteps := 2000000) (disch := first | omega | assumption) only [↓mCode, ↓mOps, mAll, seval, vPtr, ite_ne, wrap_i64, boundN_int, fn45, Tryz.f45, b0', Bool.not_false]
    exact K _ _ _ ⟨by rw [wordB_f fun h => (h.2.2 0 c0 hc0).elim b0 fun h => h.1 rfl], rfl, rfl⟩

/-- a Blank's text -/
theorem blank_ok {s : List Nat} {h : T O} {n : Nat} (hl : s.length ≤ 9223372036854775806) : Fn env0 84 [.str s] h n (fun v h' n' => v = .bool (wordB s 64) ∧ h' = h ∧ n' = n) := by
  refine Fn.mk fn84 rfl fz84 (by simp) fun Q cs K => ?_
  simp (maxSteps := 2000000) (disch := first | omega | assumption) only [↓mCode, ↓mOps, mAll, seval, vPtr, ite_ne, wrap_i64, boundN_int, fn84, Tryz.f84]
  refine W_loop (fun q regs h' n' => ∃ i : Nat, q = s.length - i ∧ i ≤ s.length ∧ regs.get 0 = some (.str s) ∧ regs.get 5 = some (.int .i64 (s.length : Int)) ∧ regs.get 6 = some (.int .i64 (i : Int)) ∧ (∀ j x, j < i → s[j]? = some x → letterB x = true ∨ (j ≠ 0 ∧ digitB x = true)) ∧ h' = h ∧ n' = n)
    _ ⟨0, rfl, by omega, ?_, ?_, ?_, fun j x hj => absurd hj (by omega), rfl, rfl⟩ ?_
  iterate 3
    · simp only [mBase, Nat.reduceEqDiff, Nat.reduceSub, reduceIte] <;> rfl
  rintro q regs h' n' ⟨i, rfl, hi, r0, r5, r6, hx, rfl, rfl⟩ IH
  by_cases c1 : i < s.length
  · have c1' : (i : Int) < (s.length : Int) := by omega
    obtain ⟨c, hc⟩ : ∃ x, s[i]? = some x := ⟨_, List.getElem?_eq_getElem c1⟩
    simp (maxSteps := 2000000) (disch := first | omega | assumption) only [↓mCode, ↓mOps, mAll, seval, vPtr, ite_ne, wrap_i64, boundN_int, fn84, Tryz.f84, r0, r5, r6, c1', hc]
    refine letterT_ok.call e0_hook e0_subs ?_
    rintro _ h' n' ⟨rfl, rfl, rfl⟩
    by_cases b1 : letterB c = true
    · simp (maxSteps := 2000000) (disch := first | omega | assumption) only [↓mCode, ↓mOps, mAll, seval, vPtr, ite_ne, wrap_i64, boundN_int, fn84, Tryz.f84, r0, r5, r6, hc, b1, Bool.not_true]
      exact IH (s.length - (i + 1)) _ _ _ (by omega) ⟨i + 1, rfl, by omega, by simp only [mBase, Nat.reduceEqDiff, Nat.reduceSub, reduceIte, r0], by simp only [mBase, Nat.reduceEqDiff, Nat.reduceSub, reduceIte, r5], by simp only [mBase, Nat.reduceEqDiff, Nat.reduceSub, reduceIte, r6] <;> rfl, wordP_step hx hc (.inl b1), rfl, rfl⟩
    · have b1' : letterB c = false := by simpa using b1
      by_cases i0 : i = 0
      · subst i0
        simp (maxSteps := 2000000) (disch := first | omega | assumption) only [↓mCode, ↓mOps, mAll, seval, vPtr, ite_ne, wrap_i64, boundN_int, fn84, Tryz.f84, r0, r5, r6, hc, b1', Bool.not_false]
        exact K _ _ _ ⟨by rw [wordB_f fun h => (h.2.2 0 c hc).elim b1 fun h => h.1 rfl], rfl, rfl⟩
      · have i0' : ((i : Int) = 0) = False := eq_false (by omega)
        simp (maxSteps := 2000000) (disch := first | omega | assumption) only [↓mCode, ↓mOps, mAll, seval, vPtr, ite_ne, wrap_i64, boundN_int, fn84, Tryz.f84, r0, r5, r6, hc, b1', i0', Bool.not_false]
        refine digitT_ok.call e0_hook e0_subs ?_
        rintro _ h' n' ⟨rfl, rfl, rfl⟩
        by_cases b2 : digitB c = true
        · simp (maxSteps := 2000000) (disch := first | omega | assumption) only [↓mCode, ↓mOps, mAll, seval, vPtr, ite_ne, wrap_i64, boundN_int, fn84, Tryz.f84, r0, r5, r6, hc, b2, Bool.not_true]
          exact IH (s.length - (i + 1)) _ _ _ (by omega) ⟨i + 1, rfl, by omega, by simp only [mBase, Nat.reduceEqDiff, Nat.reduceSub, reduceIte, r0], by simp only [mBase, Nat.reduceEqDiff, Nat.reduceSub, reduceIte, r5], by simp only [mBase, Nat.reduceEqDiff, Nat.reduceSub, reduceIte, r6] <;> rfl, wordP_step hx hc (.inr ⟨i0, b2⟩), rfl, rfl⟩
        · have b2' : digitB c = false := by simpa using b2
          simp (maxSteps := 2000000) (disch := first | omega | assumption) only [↓mCode, ↓mOps, mAll, seval, vPtr, ite_ne, wrap_i64, boundN_int, fn84, Tryz.f84, r0, r5, r6, hc, b2', Bool.not_false]
          exact K _ _ _ ⟨by rw [wordB_f fun h => (h.2.2 i c hc).elim b1 fun h => b2 h.2], rfl, rfl⟩
  · have c1' : ¬ (i : Int) < (s.length : Int) := by omega
    have hp : wordP s := fun j x hjx => hx j x (by have := (List.getElem?_eq_some_iff.1 hjx).1; omega) hjx
    by_cases l1 : 1 ≤ s.length
    · have l1' : ((1 : Int) ≤ (s.length : Int)) = True := eq_true (by omega)
      simp (maxSteps := 2000000) (disch := first | omega | assumption) only [↓mCode, ↓mOps, mAll, seval, vPtr, ite_ne, wrap_i64, boundN_int, fn84, Tryz.f84, r0, r5, r6, c1', l1']
      refine K _ _ _ ⟨?_, rfl, rfl⟩
      congr 1
      by_cases l2 : s.length ≤ 64
      · rw [wordB_t ⟨l1, l2, hp⟩]; exact decide_eq_true (by omega)
      · rw [wordB_f fun h => l2 h.2.1]; exact decide_eq_false (by omega)
    · have l1' : ((1 : Int) ≤ (s.length : Int)) = False := eq_false (by omega)
      simp (maxSteps := 2000000) (disch := first | omega | assumption) only [↓mCode, ↓mOps, mAll, seval, vPtr, ite_ne, wrap_i64, boundN_int, fn84, Tryz.f84, r0, r5, r6, c1', l1']
      exact K _ _ _ ⟨by rw [wordB_f fun h => l1 h.1], rfl, rfl⟩
end Go.Mir
namespace Go.Mir
open Go Go.Proofs
set_option maxRecDepth 4000
set_option maxHeartbeats 4000000

/- whole numbers, bit by bit -/
section
variable {k : V → Out}
theorem wrap_u8 {m : Nat} (h : m < 256) : IntKind.wrap .u8 (m : Int) = (m : Int) := by
  simp only [IntKind.wrap, IntKind.bits, IntKind.signed, Bool.false_and, Bool.false_eq_true, if_false]; omega
theorem and_u8 {a b : Nat} (ha : a < 256) (hb : b < 256) : intBin .and .u8 (a : Int) .u8 (b : Int) k = k (.int .u8 ((a &&& b : Nat) : Int)) := by
  have hlt : a &&& b < 256 := Nat.lt_of_le_of_lt Nat.and_le_left ha
  have e : Go.binOp .and 0 (.int .u8 (a : Int)) (.int .u8 (b : Int)) = .pure (.int .u8 ((a &&& b : Nat) : Int)) := by
    show Op.intBits .and .u8 (a : Int) (b : Int) = _
    show (pure (Value.int .u8 (IntKind.wrap .u8 ((BitVec.ofInt 8 (a : Int) &&& BitVec.ofInt 8 (b : Int)).toNat : Int))) : Sem Value) = _
    rw [BitVec.toNat_and, BitVec.ofInt_natCast, BitVec.ofInt_natCast, BitVec.toNat_ofNat, BitVec.toNat_ofNat, Nat.mod_eq_of_lt (by omega : a < 2 ^ 8), Nat.mod_eq_of_lt (by omega : b < 2 ^ 8), wrap_u8 hlt]
    rfl
  show gen .and .u8 (a : Int) .u8 (b : Int) k = _; unfold gen; rw [e, genI_int]
theorem or_i64 {a b : Nat} (ha : a < 2 ^ 62) (hb : b < 2 ^ 62) : intBin .or .i64 (a : Int) .i64 (b : Int) k = k (.int .i64 ((a ||| b : Nat) : Int)) := by
  have hlt : a ||| b < 2 ^ 62 := Nat.or_lt_two_pow ha hb
  have e : Go.binOp .or 0 (.int .i64 (a : Int)) (.int .i64 (b : Int)) = .pure (.int .i64 ((a ||| b : Nat) : Int)) := by
    show (pure (Value.int .i64 (IntKind.wrap .i64 ((BitVec.ofInt 64 (a : Int) ||| BitVec.ofInt 64 (b : Int)).toNat : Int))) : Sem Value) = _
    rw [BitVec.toNat_or, BitVec.ofInt_natCast, BitVec.ofInt_natCast, BitVec.toNat_ofNat, BitVec.toNat_ofNat, Nat.mod_eq_of_lt (by omega : a < 2 ^ 64), Nat.mod_eq_of_lt (by omega : b < 2 ^ 64), wrap_i64 (by omega) (by omega)]
    rfl
  show gen .or .i64 (a : Int) .i64 (b : Int) k = _; unfold gen; rw [e, genI_int]
theorem shl_6 {a : Nat} (ha : a < 2 ^ 50) : intBin .shl .i64 (a : Int) .u64 6 k = k (.int .i64 ((a * 64 : Nat) : Int)) := by
  have e : Go.binOp .shl 0 (.int .i64 (a : Int)) (.int .u64 6) = .pure (.int .i64 ((a * 64 : Nat) : Int)) := by
    show (pure (Value.int .i64 (IntKind.wrap .i64 ((a : Int) * 2 ^ (min (6 : Int).toNat (IntKind.bits .i64))))) : Sem Value) = _
    have e2 : ((a : Int) * 2 ^ (min (6 : Int).toNat (IntKind.bits .i64))) = ((a * 64 : Nat) : Int) := by
      have : (2 : Int) ^ (min (6 : Int).toNat (IntKind.bits .i64)) = 64 := by decide
      rw [this]; omega
    rw [e2, wrap_i64 (by omega) (by omega)]; rfl
  show gen .shl .i64 (a : Int) .u64 6 k = _; unfold gen; rw [e, genI_int]
theorem quo_nat {a b : Nat} (ha : a < 2 ^ 62) (hb : 0 < b) : intBin .quo .i64 (a : Int) .i64 (b : Int) k = k (.int .i64 ((a / b : Nat) : Int)) := by
  have hb' : ¬ (b : Int) = 0 := by omega
  have hle : a / b ≤ a := Nat.div_le_self a b
  have e2 : (a : Int).tdiv (b : Int) = ((a / b : Nat) : Int) := rfl
  generalize a / b = q at *
  have e : Go.binOp .quo 0 (.int .i64 (a : Int)) (.int .i64 (b : Int)) = .pure (.int .i64 (q : Int)) := by
    show (if (b : Int) = 0 then _ else (pure (Value.int .i64 (IntKind.wrap .i64 ((a : Int).tdiv (b : Int)))) : Sem Value)) = _
    rw [if_neg hb', e2, wrap_i64 (by omega) (by omega)]
    rfl
  show gen .quo .i64 (a : Int) .i64 (b : Int) k = _; unfold gen; rw [e, genI_int]
theorem rem_nat {a b : Nat} (hb : 0 < b) : intBin .rem .i64 (a : Int) .i64 (b : Int) k = k (.int .i64 ((a % b : Nat) : Int)) := by
  have hb' : ¬ (b : Int) = 0 := by omega
  have e : Go.binOp .rem 0 (.int .i64 (a : Int)) (.int .i64 (b : Int)) = .pure (.int .i64 ((a % b : Nat) : Int)) := by
    show (if (b : Int) = 0 then _ else (pure (Value.int .i64 ((a : Int).tmod (b : Int))) : Sem Value)) = _
    rw [if_neg hb', show (a : Int).tmod (b : Int) = ((a % b : Nat) : Int) from rfl]
    rfl
  show gen .rem .i64 (a : Int) .i64 (b : Int) k = _; unfold gen; rw [e, genI_int]
end

theorem and192 : ∀ c, c < 256 → (c &&& 192 = 128 ↔ c / 64 = 2) := by decide
theorem and63 (c : Nat) : c &&& 63 = c % 64 := Nat.and_two_pow_sub_one_eq_mod c 6
theorem and31 (c : Nat) : c &&& 31 = c % 32 := Nat.and_two_pow_sub_one_eq_mod c 5
theorem and15 (c : Nat) : c &&& 15 = c % 16 := Nat.and_two_pow_sub_one_eq_mod c 4
theorem and7 (c : Nat) : c &&& 7 = c % 8 := Nat.and_two_pow_sub_one_eq_mod c 3
theorem or64 (a : Nat) {b : Nat} (h : b < 64) : a * 64 ||| b = a * 64 + b := by
  have := Nat.shiftLeft_add_eq_or_of_lt (i := 6) h a
  rw [Nat.shiftLeft_eq] at this
  exact this.symm

/- the runes of bytes -/
def mayR (r : Nat) : Bool := decide (r ≤ 1114111) && (decide (r < 55296) || decide (57343 < r))
def sizeR (r : Nat) : Nat := if r < 128 then 1 else if r < 2048 then 2 else if r < 65536 then 3 else 4
def headR (c : Nat) : Option (Nat × Nat) := if c < 128 then some (c, 0) else if 194 ≤ c ∧ c < 224 then some (c % 32, 1) else if 224 ≤ c ∧ c < 240 then some (c % 16, 2) else if 240 ≤ c ∧ c < 245 then some (c % 8, 3) else none
def contR : Nat → List Nat → Nat → Option Nat
  | 0, _, r => some r
  | _ + 1, [], _ => none
  | k + 1, c :: t, r => if c / 64 = 2 then contR k t (r * 64 + c % 64) else none
/-- the rune that bytes begin with, and how many it has -/
def getR (s : List Nat) : Option (Nat × Nat) := match s with
  | [] => none
  | c :: t => (headR c).bind fun p => (contR p.2 t p.1).bind fun r => if mayR r = true ∧ sizeR r = p.2 + 1 then some (r, p.2 + 1) else none

theorem contR_short : ∀ (m : Nat) (t : List Nat) (r : Nat), t.length < m → contR m t r = none
  | 0, _, _, h => absurd h (by omega)
  | _ + 1, [], _, _ => rfl
  | m + 1, c :: t, r, h => by
    simp only [contR]
    split
    · exact contR_short m t _ (by simpa using h)
    · rfl

theorem headR_lt {c r m : Nat} (hc : c < 256) (h : headR c = some (r, m)) : r < 256 ∧ m ≤ 3 := by
  unfold headR at h
  repeat' split at h
  all_goals first | (cases h; omega) | cases h

theorem contR_lt : ∀ (m : Nat) (t : List Nat) (r x : Nat), contR m t r = some x → x < (r + 1) * 64 ^ m
  | 0, _, r, x, h => by cases h; omega
  | _ + 1, [], _, _, h => by cases h
  | m + 1, c :: t, r, x, h => by
    simp only [contR] at h
    split at h
    · have := contR_lt m t _ x h
      have e : (r * 64 + c % 64 + 1) * 64 ^ m ≤ ((r + 1) * 64) * 64 ^ m := Nat.mul_le_mul_right _ (by omega)
      calc x < (r * 64 + c % 64 + 1) * 64 ^ m := this
        _ ≤ ((r + 1) * 64) * 64 ^ m := e
        _ = (r + 1) * 64 ^ (m + 1) := by rw [Nat.pow_succ, Nat.mul_assoc, Nat.mul_comm 64]
    · cases h
end Go.Mir
