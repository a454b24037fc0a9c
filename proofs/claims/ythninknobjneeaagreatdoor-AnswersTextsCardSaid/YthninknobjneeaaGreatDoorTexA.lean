/- Walks: bytes and words. -/
import Derived.Test.YthninknobjneeaaGreatDoorEnv
set_option linter.unusedSimpArgs false
set_option linter.unusedVariables false
namespace Go.Mir
open Go Go.Proofs
set_option maxRecDepth 4000
set_option maxHeartbeats 4000000

def letterB (c : Nat) : Bool := decide (65 ≤ c) && decide (c ≤ 90) || decide (97 ≤ c) && decide (c ≤ 122)
def digitB (c : Nat) : Bool := decide (48 ≤ c) && decide (c ≤ 57)


theorem int_le {a b : Nat} {p : Prop} (h : (a ≤ b) = p) : ((a : Int) ≤ (b : Int)) = p := by rw [← h]; exact propext (by omega)

theorem digit02_ok {c : Nat} {h : T O} {n : Nat} : Fn env0 97 [.int .u8 (c : Int)] h n (fun v h' n' => v = .bool (digitB c) ∧ h' = h ∧ n' = n) := by
  refine Fn.mk fn97 rfl fz97 (by simp) fun Q cs K => ?_
  by_cases c1 : 48 ≤ c
  · have c1' : ((48 : Int) ≤ (c : Int)) = True := eq_true (by omega)
    have e : digitB c = decide ((c : Int) ≤ 57) := by
      unfold digitB; rw [decide_eq_true c1, Bool.true_and]
      exact decide_eq_decide.2 (by omega)
    simp (maxSteps := 2000000) (disch := first | omega | assumption) only [↓mCode, ↓mOps, mAll, seval, vPtr, ite_ne, wrap_i64, boundN_int, fn97, Tryz.f97, c1']
    exact K _ _ _ ⟨by rw [e], rfl, rfl⟩
  · have c1' : ((48 : Int) ≤ (c : Int)) = False := eq_false (by omega)
    have e : digitB c = false := by unfold digitB; rw [decide_eq_false c1, Bool.false_and]
    simp (maxSteps := 2000000) (disch := first | omega | assumption) only [↓mCode, ↓mOps, mAll, seval, vPtr, ite_ne, wrap_i64, boundN_int, fn97, Tryz.f97, c1']
    exact K _ _ _ ⟨by rw [e], rfl, rfl⟩

theorem letter02_ok {c : Nat} {h : T O} {n : Nat} : Fn env0 96 [.int .u8 (c : Int)] h n (fun v h' n' => v = .bool (letterB c) ∧ h' = h ∧ n' = n) := by
  refine Fn.mk fn96 rfl fz96 (by simp) fun Q cs K => ?_
  rcases (by omega : c < 65 ∨ (65 ≤ c ∧ c ≤ 90) ∨ (91 ≤ c ∧ c ≤ 96) ∨ (97 ≤ c ∧ c ≤ 122) ∨ 123 ≤ c) with q | q | q | q | q
  all_goals
    first | (have f1 : ((65 : Int) ≤ (c : Int)) = True := eq_true (by omega)) | (have f1 : ((65 : Int) ≤ (c : Int)) = False := eq_false (by omega))
    first | (have f2 : ((c : Int) ≤ 90) = True := eq_true (by omega)) | (have f2 : ((c : Int) ≤ 90) = False := eq_false (by omega))
    first | (have f3 : ((97 : Int) ≤ (c : Int)) = True := eq_true (by omega)) | (have f3 : ((97 : Int) ≤ (c : Int)) = False := eq_false (by omega))
    first | (have f4 : ((c : Int) ≤ 122) = True := eq_true (by omega)) | (have f4 : ((c : Int) ≤ 122) = False := eq_false (by omega))
    simp (maxSteps := 2000000) (disch := first | omega | assumption) only [↓mCode, ↓mOps, mAll, seval, vPtr, ite_ne, wrap_i64, boundN_int, fn96, Tryz.f96, f1, f2, f3, f4]
    refine K _ _ _ ⟨?_, rfl, rfl⟩
    congr 1
    simp only [letterB]
    simp
    omega

theorem in02_ok {c : Nat} {s : List Nat} {h : T O} {n : Nat} (hl : s.length ≤ 9223372036854775806) : Fn env0 95 [.int .u8 (c : Int), .str s] h n (fun v h' n' => v = .bool (decide (c ∈ s)) ∧ h' = h ∧ n' = n) := by
  refine Fn.mk fn95 rfl fz95 (by simp) fun Q cs K => ?_
  simp (maxSteps := 2000000) (disch := first | omega | assumption) only [↓mCode, ↓mOps, mAll, seval, vPtr, ite_ne, wrap_i64, boundN_int, fn95, Tryz.f95]
  refine W_loop (fun q regs h' n' => ∃ i : Nat, q = s.length - i ∧ i ≤ s.length ∧ regs.get 0 = some (.int .u8 (c : Int)) ∧ regs.get 1 = some (.str s) ∧ regs.get 5 = some (.int .i64 (i : Int)) ∧ (∀ j, j < i → s[j]? ≠ some c) ∧ h' = h ∧ n' = n)
    _ ⟨0, rfl, by omega, ?_, ?_, ?_, fun j hj => absurd hj (by omega), rfl, rfl⟩ ?_
  iterate 3
    · simp only [mBase, Nat.reduceEqDiff, Nat.reduceSub, reduceIte] <;> rfl
  rintro q regs h' n' ⟨i, rfl, hi, r0, r1, r5, hx, rfl, rfl⟩ IH
  by_cases c1 : i < s.length
  · have c1' : (i : Int) < (s.length : Int) := by omega
    obtain ⟨x, hx2⟩ : ∃ x, s[i]? = some x := ⟨_, List.getElem?_eq_getElem c1⟩
    by_cases c2 : x = c
    · subst c2
      simp (maxSteps := 2000000) (disch := first | omega | assumption) only [↓mCode, ↓mOps, mAll, seval, vPtr, ite_ne, wrap_i64, boundN_int, fn95, Tryz.f95, r0, r1, r5, c1', hx2]
      exact K _ _ _ ⟨by rw [decide_eq_true (List.mem_of_getElem? hx2)], rfl, rfl⟩
    · have c2' : ((x : Int) = (c : Int)) = False := eq_false (by omega)
      simp (maxSteps := 2000000) (disch := first | omega | assumption) only [↓mCode, ↓mOps, mAll, seval, vPtr, ite_ne, wrap_i64, boundN_int, fn95, Tryz.f95, r0, r1, r5, c1', hx2, c2']
      refine IH (s.length - (i + 1)) _ _ _ (by omega) ⟨i + 1, rfl, by omega, by simp only [mBase, Nat.reduceEqDiff, Nat.reduceSub, reduceIte, r0], by simp only [mBase, Nat.reduceEqDiff, Nat.reduceSub, reduceIte, r1], by simp only [mBase, Nat.reduceEqDiff, Nat.reduceSub, reduceIte, r5] <;> rfl, fun j hj => ?_, rfl, rfl⟩
      by_cases e : j = i
      · rw [e, hx2]; intro h; cases h; exact c2 rfl
      · exact hx j (by omega)
  · have c1' : ¬ (i : Int) < (s.length : Int) := by omega
    simp (maxSteps := 2000000) (disch := first | omega | assumption) only [↓mCode, ↓mOps, mAll, seval, vPtr, ite_ne, wrap_i64, boundN_int, fn95, Tryz.f95, r0, r1, r5, c1']
    refine K _ _ _ ⟨?_, rfl, rfl⟩
    rw [decide_eq_false fun hm => ?_]
    obtain ⟨j, hj⟩ := List.mem_iff_getElem?.1 hm
    have : j < s.length := (List.getElem?_eq_some_iff.1 hj).1
    exact hx j (by omega) hj
end Go.Mir
