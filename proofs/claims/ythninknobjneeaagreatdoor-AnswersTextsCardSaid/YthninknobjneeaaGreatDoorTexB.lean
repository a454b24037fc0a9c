/- Walks: words. -/
import Derived.Test.YthninknobjneeaaGreatDoorTexA
set_option linter.unusedSimpArgs false
set_option linter.unusedVariables false
namespace Go.Mir
open Go Go.Proofs
set_option maxRecDepth 4000
set_option maxHeartbeats 8000000

def wordP (s : List Nat) : Prop := ∀ j c, s[j]? = some c → letterB c = true ∨ (j ≠ 0 ∧ digitB c = true)
def wordOk (s : List Nat) (m : Nat) : Prop := 1 ≤ s.length ∧ s.length ≤ m ∧ wordP s
noncomputable def wordB (s : List Nat) (m : Nat) : Bool := @decide (wordOk s m) (Classical.propDecidable _)
theorem wordB_t {s : List Nat} {m : Nat} (h : wordOk s m) : wordB s m = true := @decide_eq_true _ (Classical.propDecidable _) h
theorem wordB_f {s : List Nat} {m : Nat} (h : ¬ wordOk s m) : wordB s m = false := @decide_eq_false _ (Classical.propDecidable _) h

theorem letter_iff {c : Nat} : letterB c = true ↔ (65 ≤ c ∧ c ≤ 90) ∨ (97 ≤ c ∧ c ≤ 122) := by simp [letterB]
theorem digit_iff {c : Nat} : digitB c = true ↔ 48 ≤ c ∧ c ≤ 57 := by simp [digitB]

theorem wordP_step {s : List Nat} {i c : Nat} (hx : ∀ j x, j < i → s[j]? = some x → letterB x = true ∨ (j ≠ 0 ∧ digitB x = true)) (hc : s[i]? = some c) (h : letterB c = true ∨ (i ≠ 0 ∧ digitB c = true)) :
    ∀ j x, j < i + 1 → s[j]? = some x → letterB x = true ∨ (j ≠ 0 ∧ digitB x = true) := fun j x hj hjx => by
  by_cases e : j = i
  · subst e; rw [hc] at hjx; cases hjx; exact h
  · exact hx j x (by omega) hjx

/-- rules' name: a word of at most 32 -/
theorem name_ok {s : List Nat} {h : T O} {n : Nat} (hl : s.length ≤ 9223372036854775806) : Fn env0 204 [.str s] h n (fun v h' n' => v = .bool (wordB s 32) ∧ h' = h ∧ n' = n) := by
  refine Fn.mk fn204 rfl fz204 (by simp) fun Q cs K => ?_
  simp (maxSteps := 2000000) (disch := first | omega | assumption) only [↓mCode, ↓mOps, mAll, seval, vPtr, ite_ne, wrap_i64, boundN_int, fn204, Tryz.f204]
  refine W_loop (fun q regs h' n' => ∃ i : Nat, q = s.length - i ∧ i ≤ s.length ∧ regs.get 0 = some (.str s) ∧ regs.get 6 = some (.int .i64 (s.length : Int)) ∧ regs.get 7 = some (.int .i64 (i : Int)) ∧ (∀ j x, j < i → s[j]? = some x → letterB x = true ∨ (j ≠ 0 ∧ digitB x = true)) ∧ h' = h ∧ n' = n)
    _ ⟨0, rfl, by omega, ?_, ?_, ?_, fun j x hj => absurd hj (by omega), rfl, rfl⟩ ?_
  iterate 3
    · simp only [mBase, Nat.reduceEqDiff, Nat.reduceSub, reduceIte] <;> rfl
  rintro q regs h' n' ⟨i, rfl, hi, r0, r6, r7, hx, rfl, rfl⟩ IH
  by_cases c1 : i < s.length
  · have c1' : (i : Int) < (s.length : Int) := by omega
    obtain ⟨c, hc⟩ : ∃ x, s[i]? = some x := ⟨_, List.getElem?_eq_getElem c1⟩
    by_cases hb : letterB c = true ∨ (i ≠ 0 ∧ digitB c = true)
    · have hb2 : (65 ≤ c ∧ c ≤ 90) ∨ (97 ≤ c ∧ c ≤ 122) ∨ (i ≠ 0 ∧ 48 ≤ c ∧ c ≤ 57) := by rw [letter_iff, digit_iff] at hb; omega
      have hstep := wordP_step hx hc hb
      rcases hb2 with q | q | q
      all_goals
        first | (have f1 : ((c : Int) < 65) = True := eq_true (by omega)) | (have f1 : ((c : Int) < 65) = False := eq_false (by omega))
        first | (have f2 : ((c : Int) > 90) = True := eq_true (by omega)) | (have f2 : ((c : Int) > 90) = False := eq_false (by omega))
        first | (have f3 : ((c : Int) < 97) = True := eq_true (by omega)) | (have f3 : ((c : Int) < 97) = False := eq_false (by omega))
        first | (have f4 : ((c : Int) > 122) = True := eq_true (by omega)) | (have f4 : ((c : Int) > 122) = False := eq_false (by omega))
        first | (have f5 : ((c : Int) < 48) = True := eq_true (by omega)) | (have f5 : ((c : Int) < 48) = False := eq_false (by omega))
        first | (have f6 : ((c : Int) > 57) = True := eq_true (by omega)) | (have f6 : ((c : Int) > 57) = False := eq_false (by omega))
        first | (have f7 : ((i : Int) = 0) = False := eq_false (by omega)) | (have f7 : True := trivial)
        simp (maxSteps := 2000000) (disch := first | omega | assumption) only [↓mCode, ↓mOps, mAll, seval, vPtr, ite_ne, wrap_i64, boundN_int, fn204, Tryz.f204, r0, r6, r7, c1', hc, f1, f2, f3, f4, f5, f6, f7]
        exact IH (s.length - (i + 1)) _ _ _ (by omega) ⟨i + 1, rfl, by omega, by simp only [mBase, Nat.reduceEqDiff, Nat.reduceSub, reduceIte, r0], by simp only [mBase, Nat.reduceEqDiff, Nat.reduceSub, reduceIte, r6], by simp only [mBase, Nat.reduceEqDiff, Nat.reduceSub, reduceIte, r7] <;> rfl, hstep, rfl, rfl⟩
    · have hw : wordB s 32 = false := wordB_f fun h => hb (h.2.2 i c hc)
      have hb2 : (c < 48 ∨ (58 ≤ c ∧ c < 65) ∨ (90 < c ∧ c < 97) ∨ 122 < c) ∨ (i = 0 ∧ 48 ≤ c ∧ c ≤ 57) := by rw [letter_iff, digit_iff] at hb; omega
      rcases hb2 with (q | q | q | q) | q
      all_goals
        first | (have f1 : ((c : Int) < 65) = True := eq_true (by omega)) | (have f1 : ((c : Int) < 65) = False := eq_false (by omega))
        first | (have f2 : ((c : Int) > 90) = True := eq_true (by omega)) | (have f2 : ((c : Int) > 90) = False := eq_false (by omega))
        first | (have f3 : ((c : Int) < 97) = True := eq_true (by omega)) | (have f3 : ((c : Int) < 97) = False := eq_false (by omega))
        first | (have f4 : ((c : Int) > 122) = True := eq_true (by omega)) | (have f4 : ((c : Int) > 122) = False := eq_false (by omega))
        first | (have f5 : ((c : Int) < 48) = True := eq_true (by omega)) | (have f5 : ((c : Int) < 48) = False := eq_false (by omega))
        first | (have f6 : ((c : Int) > 57) = True := eq_true (by omega)) | (have f6 : ((c : Int) > 57) = False := eq_false (by omega))
        by_cases z : i = 0
        all_goals
          first | (have f7 : ((i : Int) = 0) = False := eq_false (by omega)) | (have f7 : ((i : Int) = 0) = True := eq_true (by omega))
          first
          | (exfalso; omega)
          | (simp (maxSteps := 2000000) (disch := first | omega | assumption) only [↓mCode, ↓mOps, mAll, seval, vPtr, ite_ne, wrap_i64, boundN_int, fn204, Tryz.f204, r0, r6, r7, c1', hc, f1, f2, f3, f4, f5, f6, f7]
             exact K _ _ _ ⟨by rw [hw], rfl, rfl⟩)
  · have c1' : ¬ (i : Int) < (s.length : Int) := by omega
    have hp : wordP s := fun j x hjx => hx j x (by have := (List.getElem?_eq_some_iff.1 hjx).1; omega) hjx
    by_cases l1 : 1 ≤ s.length
    · have l1' : ((1 : Int) ≤ (s.length : Int)) = True := eq_true (by omega)
      simp (maxSteps := 2000000) (disch := first | omega | assumption) only [↓mCode, ↓mOps, mAll, seval, vPtr, ite_ne, wrap_i64, boundN_int, fn204, Tryz.f204, r0, r6, r7, c1', l1']
      refine K _ _ _ ⟨?_, rfl, rfl⟩
      congr 1
      by_cases l2 : s.length ≤ 32
      · rw [wordB_t ⟨l1, l2, hp⟩]; exact decide_eq_true (by omega)
      · rw [wordB_f fun h => l2 h.2.1]; exact decide_eq_false (by omega)
    · have l1' : ((1 : Int) ≤ (s.length : Int)) = False := eq_false (by omega)
      simp (maxSteps := 2000000) (disch := first | omega | assumption) only [↓mCode, ↓mOps, mAll, seval, vPtr, ite_ne, wrap_i64, boundN_int, fn204, Tryz.f204, r0, r6, r7, c1', l1']
      exact K _ _ _ ⟨by rw [wordB_f fun h => l1 h.1], rfl, rfl⟩
end Go.Mir
