/- Walks: slices.symMergeCmpFunc over rows, the whole. -/
import Derived.Test.YtnclpappnmoimaaGreatDoorAnsP
set_option linter.unusedSimpArgs false
set_option linter.unusedVariables false
namespace Go.Mir
open Go Go.Proofs Go.Srt
set_option maxRecDepth 4000
set_option maxHeartbeats 16000000

theorem cutR (O : Ord ltR) {a m b s mid e p : Nat} {d : Nat → List Tm} (hmid : mid = (a + b) / 2) (he : e = mid + m - s) (hp : p = mid + m - 1) (h1 : a < m) (h2 : m < b) (ha : Sorted ltR a m d) (hb : Sorted ltR m b d)
    (lo : s0 a m b ≤ s) (hi : s ≤ r0 a m b) (yes : ∀ c, s0 a m b ≤ c → c < s → ltR (d (p - c)) (d c) = false) (no : ∀ c, s ≤ c → c < r0 a m b → ltR (d (p - c)) (d c) = true) :
    a ≤ s ∧ s ≤ m ∧ m ≤ e ∧ e ≤ b ∧ s ≤ mid ∧ mid ≤ e ∧
    Sorted ltR a s (rotD s m e d) ∧ Sorted ltR s mid (rotD s m e d) ∧ Sorted ltR mid e (rotD s m e d) ∧ Sorted ltR e b (rotD s m e d) ∧
    ∀ i j, a ≤ i → i < mid → mid ≤ j → j < b → ltR (rotD s m e d j) (rotD s m e d i) = false := by
  subst hp he hmid
  exact merge_cut O (by omega) (by omega) ha hb ⟨lo, hi, yes, no⟩

theorem symMerge_ok (hO : Ord ltR) {n0 id L : Nat} (hL : L ≤ 1000) : ∀ (w : Nat) {h : T O} {n a m b : Nat} {g : Nat → V} {d : Nat → List Tm} (_ : DatA h n0 n id L g d) (_ : b - a < w) (_ : a < m) (_ : m < b) (_ : b ≤ L) (_ : n0 ≤ n) (_ : ∀ j, j < L → (d j).length ≤ 1000000) (_ : Sorted ltR a m d) (_ : Sorted ltR m b d),
    Fn env1 68 [.slice id 0 L false 0 L, .int .i64 (a : Int), .int .i64 (m : Int), .int .i64 (b : Int), .func 13 [] []] h n (fun _ h' n' => ∃ g' d', DatA h' n0 n' id L g' d' ∧ PermD a b d d' ∧ Sorted ltR a b d' ∧ n ≤ n' ∧ ∀ j, j < n0 → h'.get j = h.get j) := by
  intro w
  induction w with
  | zero => intro h n a m b g d _ hw; omega
  | succ w ih =>
  intro h n a m b g d D hw h1 h2 hb h0 hs s1 s2
  by_cases ca : m = a + 1
  · exact symMergeA D hO ca h2 hb hL h0 hs s1 s2
  by_cases cb : b = m + 1
  · exact symMergeB D hO (by omega) cb hb hL h0 hs s1 s2
  refine Fn.mk fn68 rfl fz68 (by simp) fun Q cs K => ?_
  have e0 : ¬ (m : Int) - (a : Int) = 1 := by omega
  have e1 : ¬ (b : Int) - (m : Int) = 1 := by omega
  obtain ⟨mid, hmid⟩ : ∃ x, x = (a + b) / 2 := ⟨_, rfl⟩
  obtain ⟨nn, hnn⟩ : ∃ x, x = mid + m := ⟨_, rfl⟩
  obtain ⟨p, hp⟩ : ∃ x, x = mid + m - 1 := ⟨_, rfl⟩
  have e2 : (a : Int) + (b : Int) = ((a + b : Nat) : Int) := by omega
  have e3 : ∀ {k : V → Out}, convInt .u64 ((a + b : Nat) : Int) k = k (.int .u64 ((a + b : Nat) : Int)) := conv_u64 (by omega)
  have e4 : ∀ {k : V → Out}, intBin .shr .u64 ((a + b : Nat) : Int) .u64 1 k = k (.int .u64 (((a + b) / 2 : Nat) : Int)) := shr_one
  have e5 : ∀ {k : V → Out}, convInt .i64 (((a + b) / 2 : Nat) : Int) k = k (.int .i64 (((a + b) / 2 : Nat) : Int)) := convInt_i64 (by omega) (by omega)
  rw [← hmid] at e4 e5
  have e6 : (mid : Int) + (m : Int) = (nn : Int) := by omega
  have e7 : (nn : Int) - 1 = (p : Int) := by omega
  have e8 : (if mid < m then ((nn : Int) - (b : Int)) else (a : Int)) = ((s0 a m b : Nat) : Int) := by unfold s0; split <;> split <;> omega
  have e9 : (if mid < m then (mid : Int) else (m : Int)) = ((r0 a m b : Nat) : Int) := by unfold r0; split <;> split <;> omega
  have hsr : s0 a m b ≤ r0 a m b := s0_le h1 h2
  by_cases c0 : mid < m
  all_goals
    first | (have c0' : (m : Int) > (mid : Int) := by omega) | (have c0' : ¬ (m : Int) > (mid : Int) := by omega)
    first | rw [if_pos c0] at e8 e9 | rw [if_neg c0] at e8 e9
    simp (maxSteps := 2000000) (disch := first | omega | assumption) only [↓mCode, ↓mOps, mVal, mBase, vPtr, Int.reduceLT, Int.reduceAdd, Int.reduceSub, Int.reduceLE, Int.reduceToNat, Int.reduceNeg, ite_true, ite_false, Nat.reduceAdd, Nat.reduceSub, Nat.reduceMul, Nat.reduceEqDiff, Nat.reduceLeDiff, reduceIte, ite_ne, wrap_i64, boundN_int, e1_tys, e1_fns, fn68, Tryz.f68, resultsK_eq, ty3, ty22, ty31, tb169, tb3, convK_169, convK_3, e0, e1, e2, e3, e4, e5, e6, e7, c0']
    refine W_loopE (fun q regs h' n' => ∃ (i j : Nat), q = j - i ∧ s0 a m b ≤ i ∧ i ≤ j ∧ j ≤ r0 a m b ∧ regs.get 0 = some (.slice id 0 L false 0 L) ∧ regs.get 1 = some (.int .i64 (a : Int)) ∧ regs.get 2 = some (.int .i64 (m : Int)) ∧ regs.get 3 = some (.int .i64 (b : Int)) ∧ regs.get 4 = some (.func 13 [] []) ∧
      regs.get 18 = some (.int .i64 (mid : Int)) ∧ regs.get 19 = some (.int .i64 (nn : Int)) ∧ regs.get 22 = some (.int .i64 (p : Int)) ∧
      regs.get 20 = some (.int .i64 (i : Int)) ∧ regs.get 21 = some (.int .i64 (j : Int)) ∧ DatA h' n0 n' id L g d ∧ (∀ k, s0 a m b ≤ k → k < i → ltR (d (p - k)) (d k) = false) ∧ (∀ k, j ≤ k → k < r0 a m b → ltR (d (p - k)) (d k) = true) ∧ n ≤ n' ∧ ∀ j, j < n0 → h'.get j = h.get j)
      (fun regs h' n' => ∃ (s : Nat), s0 a m b ≤ s ∧ s ≤ r0 a m b ∧ regs.get 0 = some (.slice id 0 L false 0 L) ∧ regs.get 1 = some (.int .i64 (a : Int)) ∧ regs.get 2 = some (.int .i64 (m : Int)) ∧ regs.get 3 = some (.int .i64 (b : Int)) ∧ regs.get 4 = some (.func 13 [] []) ∧
      regs.get 18 = some (.int .i64 (mid : Int)) ∧ regs.get 19 = some (.int .i64 (nn : Int)) ∧
      regs.get 20 = some (.int .i64 (s : Int)) ∧ DatA h' n0 n' id L g d ∧ (∀ k, s0 a m b ≤ k → k < s → ltR (d (p - k)) (d k) = false) ∧ (∀ k, s ≤ k → k < r0 a m b → ltR (d (p - k)) (d k) = true) ∧ n ≤ n' ∧ ∀ j, j < n0 → h'.get j = h.get j)
      _ ⟨s0 a m b, r0 a m b, rfl, Nat.le_refl _, hsr, Nat.le_refl _, ?_, ?_, ?_, ?_, ?_, ?_, ?_, ?_, ?_, ?_, D, fun k k1 k2 => absurd k2 (by omega), fun k k1 k2 => absurd k2 (by omega), Nat.le_refl _, fun j hj => rfl⟩ ?_ ?_
    · simp (maxSteps := 2000000) (disch := first | omega | assumption) only [↓mCode, ↓mOps, mVal, mBase, vPtr, Int.reduceLT, Int.reduceAdd, Int.reduceSub, Int.reduceLE, Int.reduceToNat, Int.reduceNeg, ite_true, ite_false, Nat.reduceAdd, Nat.reduceSub, Nat.reduceMul, Nat.reduceEqDiff, Nat.reduceLeDiff, reduceIte, ite_ne, wrap_i64, boundN_int, e1_tys]
    · simp (maxSteps := 2000000) (disch := first | omega | assumption) only [↓mCode, ↓mOps, mVal, mBase, vPtr, Int.reduceLT, Int.reduceAdd, Int.reduceSub, Int.reduceLE, Int.reduceToNat, Int.reduceNeg, ite_true, ite_false, Nat.reduceAdd, Nat.reduceSub, Nat.reduceMul, Nat.reduceEqDiff, Nat.reduceLeDiff, reduceIte, ite_ne, wrap_i64, boundN_int, e1_tys]
    · simp (maxSteps := 2000000) (disch := first | omega | assumption) only [↓mCode, ↓mOps, mVal, mBase, vPtr, Int.reduceLT, Int.reduceAdd, Int.reduceSub, Int.reduceLE, Int.reduceToNat, Int.reduceNeg, ite_true, ite_false, Nat.reduceAdd, Nat.reduceSub, Nat.reduceMul, Nat.reduceEqDiff, Nat.reduceLeDiff, reduceIte, ite_ne, wrap_i64, boundN_int, e1_tys]
    · simp (maxSteps := 2000000) (disch := first | omega | assumption) only [↓mCode, ↓mOps, mVal, mBase, vPtr, Int.reduceLT, Int.reduceAdd, Int.reduceSub, Int.reduceLE, Int.reduceToNat, Int.reduceNeg, ite_true, ite_false, Nat.reduceAdd, Nat.reduceSub, Nat.reduceMul, Nat.reduceEqDiff, Nat.reduceLeDiff, reduceIte, ite_ne, wrap_i64, boundN_int, e1_tys]
    · simp (maxSteps := 2000000) (disch := first | omega | assumption) only [↓mCode, ↓mOps, mVal, mBase, vPtr, Int.reduceLT, Int.reduceAdd, Int.reduceSub, Int.reduceLE, Int.reduceToNat, Int.reduceNeg, ite_true, ite_false, Nat.reduceAdd, Nat.reduceSub, Nat.reduceMul, Nat.reduceEqDiff, Nat.reduceLeDiff, reduceIte, ite_ne, wrap_i64, boundN_int, e1_tys]
    · simp (maxSteps := 2000000) (disch := first | omega | assumption) only [↓mCode, ↓mOps, mVal, mBase, vPtr, Int.reduceLT, Int.reduceAdd, Int.reduceSub, Int.reduceLE, Int.reduceToNat, Int.reduceNeg, ite_true, ite_false, Nat.reduceAdd, Nat.reduceSub, Nat.reduceMul, Nat.reduceEqDiff, Nat.reduceLeDiff, reduceIte, ite_ne, wrap_i64, boundN_int, e1_tys]
    · simp (maxSteps := 2000000) (disch := first | omega | assumption) only [↓mCode, ↓mOps, mVal, mBase, vPtr, Int.reduceLT, Int.reduceAdd, Int.reduceSub, Int.reduceLE, Int.reduceToNat, Int.reduceNeg, ite_true, ite_false, Nat.reduceAdd, Nat.reduceSub, Nat.reduceMul, Nat.reduceEqDiff, Nat.reduceLeDiff, reduceIte, ite_ne, wrap_i64, boundN_int, e1_tys]
    · simp (maxSteps := 2000000) (disch := first | omega | assumption) only [↓mCode, ↓mOps, mVal, mBase, vPtr, Int.reduceLT, Int.reduceAdd, Int.reduceSub, Int.reduceLE, Int.reduceToNat, Int.reduceNeg, ite_true, ite_false, Nat.reduceAdd, Nat.reduceSub, Nat.reduceMul, Nat.reduceEqDiff, Nat.reduceLeDiff, reduceIte, ite_ne, wrap_i64, boundN_int, e1_tys]
    · rw [← e8]; simp (maxSteps := 2000000) (disch := first | omega | assumption) only [↓mCode, ↓mOps, mVal, mBase, vPtr, Int.reduceLT, Int.reduceAdd, Int.reduceSub, Int.reduceLE, Int.reduceToNat, Int.reduceNeg, ite_true, ite_false, Nat.reduceAdd, Nat.reduceSub, Nat.reduceMul, Nat.reduceEqDiff, Nat.reduceLeDiff, reduceIte, ite_ne, wrap_i64, boundN_int, e1_tys]
    · rw [← e9]; simp (maxSteps := 2000000) (disch := first | omega | assumption) only [↓mCode, ↓mOps, mVal, mBase, vPtr, Int.reduceLT, Int.reduceAdd, Int.reduceSub, Int.reduceLE, Int.reduceToNat, Int.reduceNeg, ite_true, ite_false, Nat.reduceAdd, Nat.reduceSub, Nat.reduceMul, Nat.reduceEqDiff, Nat.reduceLeDiff, reduceIte, ite_ne, wrap_i64, boundN_int, e1_tys]
    · rintro t hexit q regs h' n' ⟨i, j, e10, hi, hij, hj, r0', r1, r2, r3, r4, r18, r19, r22, r20, r21, D, ht, hf, hn, hk⟩ IH
      by_cases c1 : i < j
      · have c1' : (i : Int) < (j : Int) := by omega
        have x0 := r0_le h1 h2
        have x2 : (i : Int) + (j : Int) = ((i + j : Nat) : Int) := by omega
        have x3 : ∀ {k : V → Out}, convInt .u64 ((i + j : Nat) : Int) k = k (.int .u64 ((i + j : Nat) : Int)) := conv_u64 (by omega)
        have x4 : ∀ {k : V → Out}, intBin .shr .u64 ((i + j : Nat) : Int) .u64 1 k = k (.int .u64 (((i + j) / 2 : Nat) : Int)) := shr_one
        have x5 : ∀ {k : V → Out}, convInt .i64 (((i + j) / 2 : Nat) : Int) k = k (.int .i64 (((i + j) / 2 : Nat) : Int)) := convInt_i64 (by omega) (by omega)
        obtain ⟨c, hc⟩ : ∃ c, c = (i + j) / 2 := ⟨_, rfl⟩
        have hc1 : i ≤ c := by omega
        have hc2 : c < j := by omega
        rw [← hc] at x4 x5
        obtain ⟨y1, y2, y3, y4, y5⟩ := place (p := p) (c := c) h1 h2 (by rw [hp, hmid]) (by omega) (by omega)
        have x6 : ((p : Int) - (c : Int)).toNat = p - c := by omega
        have hA : ∀ {k : V → Out}, cellAt h' id (p - c) k = k (g (p - c)) := D.at (by omega)
        have hB : ∀ {k : V → Out}, cellAt h' id c k = k (g c) := D.at (by omega)
        simp (maxSteps := 2000000) (disch := first | omega | assumption) only [↓mCode, ↓mOps, mVal, mBase, vPtr, Int.reduceLT, Int.reduceAdd, Int.reduceSub, Int.reduceLE, Int.reduceToNat, Int.reduceNeg, ite_true, ite_false, Nat.reduceAdd, Nat.reduceSub, Nat.reduceMul, Nat.reduceEqDiff, Nat.reduceLeDiff, reduceIte, ite_ne, wrap_i64, boundN_int, e1_tys, e1_fns, fn68, Tryz.f68, resultsK_eq, ty3, ty22, ty31, tb169, tb3, convK_169, convK_3, r0', r4, r22, r20, r21, c1', x2, x3, x4, x5]
        refine W_draw sr68_35 ss68_35 ?_ ?_
        · exact sk68_35
        simp (maxSteps := 2000000) (disch := first | omega | assumption) only [↓mCode, ↓mOps, mVal, mBase, vPtr, Int.reduceLT, Int.reduceAdd, Int.reduceSub, Int.reduceLE, Int.reduceToNat, Int.reduceNeg, ite_true, ite_false, Nat.reduceAdd, Nat.reduceSub, Nat.reduceMul, Nat.reduceEqDiff, Nat.reduceLeDiff, reduceIte, ite_ne, wrap_i64, boundN_int, e1_tys, e1_fns, fn68, Tryz.f68, resultsK_eq, ty3, ty22, ty31, r0', r4, r22, r20, r21, x6, hA, hB, Nat.mul_one]
        refine (compare_ok (D.2.2.2 (p - c) (by omega)).1 (D.2.2.2 c (by omega)).1 (hs (p - c) (by omega)) (hs c (by omega))).call rfl e1_subs ?_
        rintro _ h8 n8 ⟨rfl, G⟩
        have D := D.ext G
        have hn8 : n ≤ n8 := Nat.le_trans hn G.1
        have hk8 : ∀ j, j < n0 → h8.get j = h.get j := fun j hj => (G.2 j (by omega)).trans (hk j hj)
        by_cases c3 : lexL cmpT (d (p - c)) (d c) < 0
        · simp (maxSteps := 2000000) (disch := first | omega | assumption) only [↓mCode, ↓mOps, mVal, mBase, vPtr, Int.reduceLT, Int.reduceAdd, Int.reduceSub, Int.reduceLE, Int.reduceToNat, Int.reduceNeg, ite_true, ite_false, Nat.reduceAdd, Nat.reduceSub, Nat.reduceMul, Nat.reduceEqDiff, Nat.reduceLeDiff, reduceIte, ite_ne, wrap_i64, boundN_int, e1_tys, e1_fns, fn68, Tryz.f68, resultsK_eq, ty3, ty22, ty31, r0', r1, r2, r3, r4, r18, r19, r22, r20, r21, c3]
          exact IH (c - i) _ _ _ (by omega) ⟨i, c, rfl, by omega, by omega, by omega, by simp (maxSteps := 2000000) (disch := first | omega | assumption) only [↓mCode, ↓mOps, mVal, mBase, vPtr, Int.reduceLT, Int.reduceAdd, Int.reduceSub, Int.reduceLE, Int.reduceToNat, Int.reduceNeg, ite_true, ite_false, Nat.reduceAdd, Nat.reduceSub, Nat.reduceMul, Nat.reduceEqDiff, Nat.reduceLeDiff, reduceIte, ite_ne, wrap_i64, boundN_int, r0'], by simp (maxSteps := 2000000) (disch := first | omega | assumption) only [↓mCode, ↓mOps, mVal, mBase, vPtr, Int.reduceLT, Int.reduceAdd, Int.reduceSub, Int.reduceLE, Int.reduceToNat, Int.reduceNeg, ite_true, ite_false, Nat.reduceAdd, Nat.reduceSub, Nat.reduceMul, Nat.reduceEqDiff, Nat.reduceLeDiff, reduceIte, ite_ne, wrap_i64, boundN_int, r1], by simp (maxSteps := 2000000) (disch := first | omega | assumption) only [↓mCode, ↓mOps, mVal, mBase, vPtr, Int.reduceLT, Int.reduceAdd, Int.reduceSub, Int.reduceLE, Int.reduceToNat, Int.reduceNeg, ite_true, ite_false, Nat.reduceAdd, Nat.reduceSub, Nat.reduceMul, Nat.reduceEqDiff, Nat.reduceLeDiff, reduceIte, ite_ne, wrap_i64, boundN_int, r2], by simp (maxSteps := 2000000) (disch := first | omega | assumption) only [↓mCode, ↓mOps, mVal, mBase, vPtr, Int.reduceLT, Int.reduceAdd, Int.reduceSub, Int.reduceLE, Int.reduceToNat, Int.reduceNeg, ite_true, ite_false, Nat.reduceAdd, Nat.reduceSub, Nat.reduceMul, Nat.reduceEqDiff, Nat.reduceLeDiff, reduceIte, ite_ne, wrap_i64, boundN_int, r3], by simp (maxSteps := 2000000) (disch := first | omega | assumption) only [↓mCode, ↓mOps, mVal, mBase, vPtr, Int.reduceLT, Int.reduceAdd, Int.reduceSub, Int.reduceLE, Int.reduceToNat, Int.reduceNeg, ite_true, ite_false, Nat.reduceAdd, Nat.reduceSub, Nat.reduceMul, Nat.reduceEqDiff, Nat.reduceLeDiff, reduceIte, ite_ne, wrap_i64, boundN_int, r4], by simp (maxSteps := 2000000) (disch := first | omega | assumption) only [↓mCode, ↓mOps, mVal, mBase, vPtr, Int.reduceLT, Int.reduceAdd, Int.reduceSub, Int.reduceLE, Int.reduceToNat, Int.reduceNeg, ite_true, ite_false, Nat.reduceAdd, Nat.reduceSub, Nat.reduceMul, Nat.reduceEqDiff, Nat.reduceLeDiff, reduceIte, ite_ne, wrap_i64, boundN_int, r18], by simp (maxSteps := 2000000) (disch := first | omega | assumption) only [↓mCode, ↓mOps, mVal, mBase, vPtr, Int.reduceLT, Int.reduceAdd, Int.reduceSub, Int.reduceLE, Int.reduceToNat, Int.reduceNeg, ite_true, ite_false, Nat.reduceAdd, Nat.reduceSub, Nat.reduceMul, Nat.reduceEqDiff, Nat.reduceLeDiff, reduceIte, ite_ne, wrap_i64, boundN_int, r19], by simp (maxSteps := 2000000) (disch := first | omega | assumption) only [↓mCode, ↓mOps, mVal, mBase, vPtr, Int.reduceLT, Int.reduceAdd, Int.reduceSub, Int.reduceLE, Int.reduceToNat, Int.reduceNeg, ite_true, ite_false, Nat.reduceAdd, Nat.reduceSub, Nat.reduceMul, Nat.reduceEqDiff, Nat.reduceLeDiff, reduceIte, ite_ne, wrap_i64, boundN_int, r22], by simp (maxSteps := 2000000) (disch := first | omega | assumption) only [↓mCode, ↓mOps, mVal, mBase, vPtr, Int.reduceLT, Int.reduceAdd, Int.reduceSub, Int.reduceLE, Int.reduceToNat, Int.reduceNeg, ite_true, ite_false, Nat.reduceAdd, Nat.reduceSub, Nat.reduceMul, Nat.reduceEqDiff, Nat.reduceLeDiff, reduceIte, ite_ne, wrap_i64, boundN_int, r20], by simp (maxSteps := 2000000) (disch := first | omega | assumption) only [↓mCode, ↓mOps, mVal, mBase, vPtr, Int.reduceLT, Int.reduceAdd, Int.reduceSub, Int.reduceLE, Int.reduceToNat, Int.reduceNeg, ite_true, ite_false, Nat.reduceAdd, Nat.reduceSub, Nat.reduceMul, Nat.reduceEqDiff, Nat.reduceLeDiff, reduceIte, ite_ne, wrap_i64, boundN_int, r21], D,
            ht, fun k k1 k2 => no_step hO h1 h2 (by rw [hp, hmid]) s1 s2 (by omega) (by omega) (ltR_t c3) k1 k2, hn8, hk8⟩
        · simp (maxSteps := 2000000) (disch := first | omega | assumption) only [↓mCode, ↓mOps, mVal, mBase, vPtr, Int.reduceLT, Int.reduceAdd, Int.reduceSub, Int.reduceLE, Int.reduceToNat, Int.reduceNeg, ite_true, ite_false, Nat.reduceAdd, Nat.reduceSub, Nat.reduceMul, Nat.reduceEqDiff, Nat.reduceLeDiff, reduceIte, ite_ne, wrap_i64, boundN_int, e1_tys, e1_fns, fn68, Tryz.f68, resultsK_eq, ty3, ty22, ty31, r0', r1, r2, r3, r4, r18, r19, r22, r20, r21, c3]
          exact IH (j - (c + 1)) _ _ _ (by omega) ⟨c + 1, j, rfl, by omega, by omega, hj, by simp (maxSteps := 2000000) (disch := first | omega | assumption) only [↓mCode, ↓mOps, mVal, mBase, vPtr, Int.reduceLT, Int.reduceAdd, Int.reduceSub, Int.reduceLE, Int.reduceToNat, Int.reduceNeg, ite_true, ite_false, Nat.reduceAdd, Nat.reduceSub, Nat.reduceMul, Nat.reduceEqDiff, Nat.reduceLeDiff, reduceIte, ite_ne, wrap_i64, boundN_int, r0'], by simp (maxSteps := 2000000) (disch := first | omega | assumption) only [↓mCode, ↓mOps, mVal, mBase, vPtr, Int.reduceLT, Int.reduceAdd, Int.reduceSub, Int.reduceLE, Int.reduceToNat, Int.reduceNeg, ite_true, ite_false, Nat.reduceAdd, Nat.reduceSub, Nat.reduceMul, Nat.reduceEqDiff, Nat.reduceLeDiff, reduceIte, ite_ne, wrap_i64, boundN_int, r1], by simp (maxSteps := 2000000) (disch := first | omega | assumption) only [↓mCode, ↓mOps, mVal, mBase, vPtr, Int.reduceLT, Int.reduceAdd, Int.reduceSub, Int.reduceLE, Int.reduceToNat, Int.reduceNeg, ite_true, ite_false, Nat.reduceAdd, Nat.reduceSub, Nat.reduceMul, Nat.reduceEqDiff, Nat.reduceLeDiff, reduceIte, ite_ne, wrap_i64, boundN_int, r2], by simp (maxSteps := 2000000) (disch := first | omega | assumption) only [↓mCode, ↓mOps, mVal, mBase, vPtr, Int.reduceLT, Int.reduceAdd, Int.reduceSub, Int.reduceLE, Int.reduceToNat, Int.reduceNeg, ite_true, ite_false, Nat.reduceAdd, Nat.reduceSub, Nat.reduceMul, Nat.reduceEqDiff, Nat.reduceLeDiff, reduceIte, ite_ne, wrap_i64, boundN_int, r3], by simp (maxSteps := 2000000) (disch := first | omega | assumption) only [↓mCode, ↓mOps, mVal, mBase, vPtr, Int.reduceLT, Int.reduceAdd, Int.reduceSub, Int.reduceLE, Int.reduceToNat, Int.reduceNeg, ite_true, ite_false, Nat.reduceAdd, Nat.reduceSub, Nat.reduceMul, Nat.reduceEqDiff, Nat.reduceLeDiff, reduceIte, ite_ne, wrap_i64, boundN_int, r4], by simp (maxSteps := 2000000) (disch := first | omega | assumption) only [↓mCode, ↓mOps, mVal, mBase, vPtr, Int.reduceLT, Int.reduceAdd, Int.reduceSub, Int.reduceLE, Int.reduceToNat, Int.reduceNeg, ite_true, ite_false, Nat.reduceAdd, Nat.reduceSub, Nat.reduceMul, Nat.reduceEqDiff, Nat.reduceLeDiff, reduceIte, ite_ne, wrap_i64, boundN_int, r18], by simp (maxSteps := 2000000) (disch := first | omega | assumption) only [↓mCode, ↓mOps, mVal, mBase, vPtr, Int.reduceLT, Int.reduceAdd, Int.reduceSub, Int.reduceLE, Int.reduceToNat, Int.reduceNeg, ite_true, ite_false, Nat.reduceAdd, Nat.reduceSub, Nat.reduceMul, Nat.reduceEqDiff, Nat.reduceLeDiff, reduceIte, ite_ne, wrap_i64, boundN_int, r19], by simp (maxSteps := 2000000) (disch := first | omega | assumption) only [↓mCode, ↓mOps, mVal, mBase, vPtr, Int.reduceLT, Int.reduceAdd, Int.reduceSub, Int.reduceLE, Int.reduceToNat, Int.reduceNeg, ite_true, ite_false, Nat.reduceAdd, Nat.reduceSub, Nat.reduceMul, Nat.reduceEqDiff, Nat.reduceLeDiff, reduceIte, ite_ne, wrap_i64, boundN_int, r22], by simp (maxSteps := 2000000) (disch := first | omega | assumption) only [↓mCode, ↓mOps, mVal, mBase, vPtr, Int.reduceLT, Int.reduceAdd, Int.reduceSub, Int.reduceLE, Int.reduceToNat, Int.reduceNeg, ite_true, ite_false, Nat.reduceAdd, Nat.reduceSub, Nat.reduceMul, Nat.reduceEqDiff, Nat.reduceLeDiff, reduceIte, ite_ne, wrap_i64, boundN_int, r20]; rfl, by simp (maxSteps := 2000000) (disch := first | omega | assumption) only [↓mCode, ↓mOps, mVal, mBase, vPtr, Int.reduceLT, Int.reduceAdd, Int.reduceSub, Int.reduceLE, Int.reduceToNat, Int.reduceNeg, ite_true, ite_false, Nat.reduceAdd, Nat.reduceSub, Nat.reduceMul, Nat.reduceEqDiff, Nat.reduceLeDiff, reduceIte, ite_ne, wrap_i64, boundN_int, r21], D,
            fun k k1 k2 => yes_step hO h1 h2 (by rw [hp, hmid]) s1 s2 (by omega) (by omega) (ltR_f c3) k1 (by omega), hf, hn8, hk8⟩
      · have c1' : ¬ (i : Int) < (j : Int) := by omega
        have e : j = i := by omega
        subst e
        simp (maxSteps := 2000000) (disch := first | omega | assumption) only [↓mCode, ↓mOps, mVal, mBase, vPtr, Int.reduceLT, Int.reduceAdd, Int.reduceSub, Int.reduceLE, Int.reduceToNat, Int.reduceNeg, ite_true, ite_false, Nat.reduceAdd, Nat.reduceSub, Nat.reduceMul, Nat.reduceEqDiff, Nat.reduceLeDiff, reduceIte, ite_ne, wrap_i64, boundN_int, e1_tys, e1_fns, fn68, Tryz.f68, resultsK_eq, ty3, ty22, ty31, r0', r1, r2, r3, r4, r18, r19, r20, r21, c1']
        exact hexit _ _ _ ⟨j, hi, hj, by simp (maxSteps := 2000000) (disch := first | omega | assumption) only [↓mCode, ↓mOps, mVal, mBase, vPtr, Int.reduceLT, Int.reduceAdd, Int.reduceSub, Int.reduceLE, Int.reduceToNat, Int.reduceNeg, ite_true, ite_false, Nat.reduceAdd, Nat.reduceSub, Nat.reduceMul, Nat.reduceEqDiff, Nat.reduceLeDiff, reduceIte, ite_ne, wrap_i64, boundN_int, r0'], by simp (maxSteps := 2000000) (disch := first | omega | assumption) only [↓mCode, ↓mOps, mVal, mBase, vPtr, Int.reduceLT, Int.reduceAdd, Int.reduceSub, Int.reduceLE, Int.reduceToNat, Int.reduceNeg, ite_true, ite_false, Nat.reduceAdd, Nat.reduceSub, Nat.reduceMul, Nat.reduceEqDiff, Nat.reduceLeDiff, reduceIte, ite_ne, wrap_i64, boundN_int, r1], by simp (maxSteps := 2000000) (disch := first | omega | assumption) only [↓mCode, ↓mOps, mVal, mBase, vPtr, Int.reduceLT, Int.reduceAdd, Int.reduceSub, Int.reduceLE, Int.reduceToNat, Int.reduceNeg, ite_true, ite_false, Nat.reduceAdd, Nat.reduceSub, Nat.reduceMul, Nat.reduceEqDiff, Nat.reduceLeDiff, reduceIte, ite_ne, wrap_i64, boundN_int, r2], by simp (maxSteps := 2000000) (disch := first | omega | assumption) only [↓mCode, ↓mOps, mVal, mBase, vPtr, Int.reduceLT, Int.reduceAdd, Int.reduceSub, Int.reduceLE, Int.reduceToNat, Int.reduceNeg, ite_true, ite_false, Nat.reduceAdd, Nat.reduceSub, Nat.reduceMul, Nat.reduceEqDiff, Nat.reduceLeDiff, reduceIte, ite_ne, wrap_i64, boundN_int, r3], by simp (maxSteps := 2000000) (disch := first | omega | assumption) only [↓mCode, ↓mOps, mVal, mBase, vPtr, Int.reduceLT, Int.reduceAdd, Int.reduceSub, Int.reduceLE, Int.reduceToNat, Int.reduceNeg, ite_true, ite_false, Nat.reduceAdd, Nat.reduceSub, Nat.reduceMul, Nat.reduceEqDiff, Nat.reduceLeDiff, reduceIte, ite_ne, wrap_i64, boundN_int, r4], by simp (maxSteps := 2000000) (disch := first | omega | assumption) only [↓mCode, ↓mOps, mVal, mBase, vPtr, Int.reduceLT, Int.reduceAdd, Int.reduceSub, Int.reduceLE, Int.reduceToNat, Int.reduceNeg, ite_true, ite_false, Nat.reduceAdd, Nat.reduceSub, Nat.reduceMul, Nat.reduceEqDiff, Nat.reduceLeDiff, reduceIte, ite_ne, wrap_i64, boundN_int, r18], by simp (maxSteps := 2000000) (disch := first | omega | assumption) only [↓mCode, ↓mOps, mVal, mBase, vPtr, Int.reduceLT, Int.reduceAdd, Int.reduceSub, Int.reduceLE, Int.reduceToNat, Int.reduceNeg, ite_true, ite_false, Nat.reduceAdd, Nat.reduceSub, Nat.reduceMul, Nat.reduceEqDiff, Nat.reduceLeDiff, reduceIte, ite_ne, wrap_i64, boundN_int, r19], by simp (maxSteps := 2000000) (disch := first | omega | assumption) only [↓mCode, ↓mOps, mVal, mBase, vPtr, Int.reduceLT, Int.reduceAdd, Int.reduceSub, Int.reduceLE, Int.reduceToNat, Int.reduceNeg, ite_true, ite_false, Nat.reduceAdd, Nat.reduceSub, Nat.reduceMul, Nat.reduceEqDiff, Nat.reduceLeDiff, reduceIte, ite_ne, wrap_i64, boundN_int, r20], D, ht, hf, hn, hk⟩
    · rintro regs h' n' ⟨s, hlo, hhi, r0', r1, r2, r3, r4, r18, r19, r20, D, ht, hf, hn, hk⟩
      obtain ⟨e, he⟩ : ∃ x, x = mid + m - s := ⟨_, rfl⟩
      obtain ⟨q1, q2, q3, q4, q5, q6, sA, sB, sC, sD, hc⟩ := cutR hO hmid he hp h1 h2 s1 s2 hlo hhi ht hf
      have p0 : PermD a b d (rotD s m e d) := (rotD_perm d q2 q3).mono q1 q4
      have y1 : (nn : Int) - (s : Int) = (e : Int) := by omega
      by_cases c5 : s < m
      · by_cases c6 : m < e
        · have c5p : ((s : Int) < (m : Int)) = True := eq_true (by omega)
          have c6p : ((m : Int) < (e : Int)) = True := eq_true (by omega)
          simp (maxSteps := 2000000) (disch := first | omega | assumption) only [↓mCode, ↓mOps, mVal, mBase, vPtr, Int.reduceLT, Int.reduceAdd, Int.reduceSub, Int.reduceLE, Int.reduceToNat, Int.reduceNeg, ite_true, ite_false, Nat.reduceAdd, Nat.reduceSub, Nat.reduceMul, Nat.reduceEqDiff, Nat.reduceLeDiff, reduceIte, ite_ne, wrap_i64, boundN_int, e1_tys, e1_fns, fn68, Tryz.f68, resultsK_eq, ty3, ty22, ty31, r0', r1, r2, r3, r4, r18, r19, r20, y1, c5p, c6p]
          refine (rotate_ok (f := .func 13 [] []) D c5 c6 (by omega) hL (by omega)).call rfl e1_subs ?_
          rintro v h8 n8 ⟨g8, D8, hn8, hk8⟩
          have hk8' : ∀ j, j < n0 → h8.get j = h.get j := fun j hj => (hk8 j hj).trans (hk j hj)
          generalize rotD s m e d = d1 at *
          by_cases c7 : a < s
          · by_cases c8 : s < mid
            · have c7p : ((a : Int) < (s : Int)) = True := eq_true (by omega)
              have c8p : ((s : Int) < (mid : Int)) = True := eq_true (by omega)
              simp (maxSteps := 2000000) (disch := first | omega | assumption) only [↓mCode, ↓mOps, mVal, mBase, vPtr, Int.reduceLT, Int.reduceAdd, Int.reduceSub, Int.reduceLE, Int.reduceToNat, Int.reduceNeg, ite_true, ite_false, Nat.reduceAdd, Nat.reduceSub, Nat.reduceMul, Nat.reduceEqDiff, Nat.reduceLeDiff, reduceIte, ite_ne, wrap_i64, boundN_int, e1_tys, e1_fns, fn68, Tryz.f68, resultsK_eq, ty3, ty22, ty31, r0', r1, r2, r3, r4, r18, r19, r20, y1, c5p, c6p, c7p, c8p]
              refine (ih D8 (by omega) c7 c8 (by omega) (by omega) (p0.all' (p := fun x => x.length ≤ 1000000) hs) sA sB).call rfl e1_subs ?_
              rintro v9 h9 n9 ⟨g9, d9, D9, p1, s9, hn9, hk9⟩
              have hk9' : ∀ j, j < n0 → h9.get j = h.get j := fun j hj => (hk9 j hj).trans (hk8' j hj)
              have pp : PermD a b d d9 := p0.trans (p1.mono (Nat.le_refl _) (by omega))
              have tC : Sorted ltR mid e d9 := sC.congr fun i i1 i2 => p1.out (.inr i1)
              have tD : Sorted ltR e b d9 := sD.congr fun i i1 i2 => p1.out (.inr (by omega))
              by_cases c9 : mid < e
              · by_cases c10 : e < b
                · have c9p : ((mid : Int) < (e : Int)) = True := eq_true (by omega)
                  have c10p : ((e : Int) < (b : Int)) = True := eq_true (by omega)
                  simp (maxSteps := 2000000) (disch := first | omega | assumption) only [↓mCode, ↓mOps, mVal, mBase, vPtr, Int.reduceLT, Int.reduceAdd, Int.reduceSub, Int.reduceLE, Int.reduceToNat, Int.reduceNeg, ite_true, ite_false, Nat.reduceAdd, Nat.reduceSub, Nat.reduceMul, Nat.reduceEqDiff, Nat.reduceLeDiff, reduceIte, ite_ne, wrap_i64, boundN_int, e1_tys, e1_fns, fn68, Tryz.f68, resultsK_eq, ty3, ty22, ty31, r0', r1, r2, r3, r4, r18, r19, r20, y1, c5p, c6p, c7p, c8p, c9p, c10p]
                  refine (ih D9 (by omega) c9 c10 (by omega) (by omega) (pp.all' (p := fun x => x.length ≤ 1000000) hs) tC tD).call rfl e1_subs ?_
                  rintro vA hA nA ⟨gA, dA, DA, pA, sA', hnA, hkA⟩
                  simp (maxSteps := 2000000) (disch := first | omega | assumption) only [↓mCode, ↓mOps, mVal, mBase, vPtr, Int.reduceLT, Int.reduceAdd, Int.reduceSub, Int.reduceLE, Int.reduceToNat, Int.reduceNeg, ite_true, ite_false, Nat.reduceAdd, Nat.reduceSub, Nat.reduceMul, Nat.reduceEqDiff, Nat.reduceLeDiff, reduceIte, ite_ne, wrap_i64, boundN_int, e1_tys, e1_fns, fn68, Tryz.f68, resultsK_eq, ty3, ty22, ty31, r0', r1, r2, r3, r4, r18, r19, r20, y1, c5p, c6p, c7p, c8p, c9p, c10p]
                  exact K _ _ _ ⟨gA, dA, DA, pp.trans (pA.mono (by omega) (Nat.le_refl _)), merge_ok (by omega) (by omega) hc p1 s9 pA sA', by omega, fun j hj => (hkA j hj).trans (hk9' j hj)⟩
                · have c9p : ((mid : Int) < (e : Int)) = True := eq_true (by omega)
                  have c10p : ((e : Int) < (b : Int)) = False := eq_false (by omega)
                  have ee : e = b := by omega
                  have sA' : Sorted ltR mid b d9 := ee ▸ tC
                  simp (maxSteps := 2000000) (disch := first | omega | assumption) only [↓mCode, ↓mOps, mVal, mBase, vPtr, Int.reduceLT, Int.reduceAdd, Int.reduceSub, Int.reduceLE, Int.reduceToNat, Int.reduceNeg, ite_true, ite_false, Nat.reduceAdd, Nat.reduceSub, Nat.reduceMul, Nat.reduceEqDiff, Nat.reduceLeDiff, reduceIte, ite_ne, wrap_i64, boundN_int, e1_tys, e1_fns, fn68, Tryz.f68, resultsK_eq, ty3, ty22, ty31, r0', r1, r2, r3, r4, r18, r19, r20, y1, c5p, c6p, c7p, c8p, c9p, c10p]
                  exact K _ _ _ ⟨g9, d9, D9, pp, merge_ok (by omega) (by omega) hc p1 s9 (PermD.refl _ _ _) sA', by omega, hk9'⟩
              · have c9p : ((mid : Int) < (e : Int)) = False := eq_false (by omega)
                have c10p := c9p
                have ee : mid = e := by omega
                have sA' : Sorted ltR mid b d9 := ee ▸ tD
                simp (maxSteps := 2000000) (disch := first | omega | assumption) only [↓mCode, ↓mOps, mVal, mBase, vPtr, Int.reduceLT, Int.reduceAdd, Int.reduceSub, Int.reduceLE, Int.reduceToNat, Int.reduceNeg, ite_true, ite_false, Nat.reduceAdd, Nat.reduceSub, Nat.reduceMul, Nat.reduceEqDiff, Nat.reduceLeDiff, reduceIte, ite_ne, wrap_i64, boundN_int, e1_tys, e1_fns, fn68, Tryz.f68, resultsK_eq, ty3, ty22, ty31, r0', r1, r2, r3, r4, r18, r19, r20, y1, c5p, c6p, c7p, c8p, c9p, c10p]
                exact K _ _ _ ⟨g9, d9, D9, pp, merge_ok (by omega) (by omega) hc p1 s9 (PermD.refl _ _ _) sA', by omega, hk9'⟩
            · have c7p : ((a : Int) < (s : Int)) = True := eq_true (by omega)
              have c8p : ((s : Int) < (mid : Int)) = False := eq_false (by omega)
              have ee : s = mid := by omega
              have s9 : Sorted ltR a mid d1 := ee ▸ sA
              have D9 := D8
              have p1 : PermD a mid d1 d1 := PermD.refl _ _ _
              have hn9 : n8 ≤ n8 := Nat.le_refl _
              have hk9' := hk8'
              have pp : PermD a b d d1 := p0.trans (p1.mono (Nat.le_refl _) (by omega))
              have tC : Sorted ltR mid e d1 := sC.congr fun i i1 i2 => p1.out (.inr i1)
              have tD : Sorted ltR e b d1 := sD.congr fun i i1 i2 => p1.out (.inr (by omega))
              by_cases c9 : mid < e
              · by_cases c10 : e < b
                · have c9p : ((mid : Int) < (e : Int)) = True := eq_true (by omega)
                  have c10p : ((e : Int) < (b : Int)) = True := eq_true (by omega)
                  simp (maxSteps := 2000000) (disch := first | omega | assumption) only [↓mCode, ↓mOps, mVal, mBase, vPtr, Int.reduceLT, Int.reduceAdd, Int.reduceSub, Int.reduceLE, Int.reduceToNat, Int.reduceNeg, ite_true, ite_false, Nat.reduceAdd, Nat.reduceSub, Nat.reduceMul, Nat.reduceEqDiff, Nat.reduceLeDiff, reduceIte, ite_ne, wrap_i64, boundN_int, e1_tys, e1_fns, fn68, Tryz.f68, resultsK_eq, ty3, ty22, ty31, r0', r1, r2, r3, r4, r18, r19, r20, y1, c5p, c6p, c7p, c8p, c9p, c10p]
                  refine (ih D9 (by omega) c9 c10 (by omega) (by omega) (pp.all' (p := fun x => x.length ≤ 1000000) hs) tC tD).call rfl e1_subs ?_
                  rintro vA hA nA ⟨gA, dA, DA, pA, sA', hnA, hkA⟩
                  simp (maxSteps := 2000000) (disch := first | omega | assumption) only [↓mCode, ↓mOps, mVal, mBase, vPtr, Int.reduceLT, Int.reduceAdd, Int.reduceSub, Int.reduceLE, Int.reduceToNat, Int.reduceNeg, ite_true, ite_false, Nat.reduceAdd, Nat.reduceSub, Nat.reduceMul, Nat.reduceEqDiff, Nat.reduceLeDiff, reduceIte, ite_ne, wrap_i64, boundN_int, e1_tys, e1_fns, fn68, Tryz.f68, resultsK_eq, ty3, ty22, ty31, r0', r1, r2, r3, r4, r18, r19, r20, y1, c5p, c6p, c7p, c8p, c9p, c10p]
                  exact K _ _ _ ⟨gA, dA, DA, pp.trans (pA.mono (by omega) (Nat.le_refl _)), merge_ok (by omega) (by omega) hc p1 s9 pA sA', by omega, fun j hj => (hkA j hj).trans (hk9' j hj)⟩
                · have c9p : ((mid : Int) < (e : Int)) = True := eq_true (by omega)
                  have c10p : ((e : Int) < (b : Int)) = False := eq_false (by omega)
                  have ee : e = b := by omega
                  have sA' : Sorted ltR mid b d1 := ee ▸ tC
                  simp (maxSteps := 2000000) (disch := first | omega | assumption) only [↓mCode, ↓mOps, mVal, mBase, vPtr, Int.reduceLT, Int.reduceAdd, Int.reduceSub, Int.reduceLE, Int.reduceToNat, Int.reduceNeg, ite_true, ite_false, Nat.reduceAdd, Nat.reduceSub, Nat.reduceMul, Nat.reduceEqDiff, Nat.reduceLeDiff, reduceIte, ite_ne, wrap_i64, boundN_int, e1_tys, e1_fns, fn68, Tryz.f68, resultsK_eq, ty3, ty22, ty31, r0', r1, r2, r3, r4, r18, r19, r20, y1, c5p, c6p, c7p, c8p, c9p, c10p]
                  exact K _ _ _ ⟨g8, d1, D9, pp, merge_ok (by omega) (by omega) hc p1 s9 (PermD.refl _ _ _) sA', by omega, hk9'⟩
              · have c9p : ((mid : Int) < (e : Int)) = False := eq_false (by omega)
                have c10p := c9p
                have ee : mid = e := by omega
                have sA' : Sorted ltR mid b d1 := ee ▸ tD
                simp (maxSteps := 2000000) (disch := first | omega | assumption) only [↓mCode, ↓mOps, mVal, mBase, vPtr, Int.reduceLT, Int.reduceAdd, Int.reduceSub, Int.reduceLE, Int.reduceToNat, Int.reduceNeg, ite_true, ite_false, Nat.reduceAdd, Nat.reduceSub, Nat.reduceMul, Nat.reduceEqDiff, Nat.reduceLeDiff, reduceIte, ite_ne, wrap_i64, boundN_int, e1_tys, e1_fns, fn68, Tryz.f68, resultsK_eq, ty3, ty22, ty31, r0', r1, r2, r3, r4, r18, r19, r20, y1, c5p, c6p, c7p, c8p, c9p, c10p]
                exact K _ _ _ ⟨g8, d1, D9, pp, merge_ok (by omega) (by omega) hc p1 s9 (PermD.refl _ _ _) sA', by omega, hk9'⟩
          · have c7p : ((a : Int) < (s : Int)) = False := eq_false (by omega)
            have c8p := c7p
            have ee : s = a := by omega
            have s9 : Sorted ltR a mid d1 := ee ▸ sB
            have D9 := D8
            have p1 : PermD a mid d1 d1 := PermD.refl _ _ _
            have hn9 : n8 ≤ n8 := Nat.le_refl _
            have hk9' := hk8'
            have pp : PermD a b d d1 := p0.trans (p1.mono (Nat.le_refl _) (by omega))
            have tC : Sorted ltR mid e d1 := sC.congr fun i i1 i2 => p1.out (.inr i1)
            have tD : Sorted ltR e b d1 := sD.congr fun i i1 i2 => p1.out (.inr (by omega))
            by_cases c9 : mid < e
            · by_cases c10 : e < b
              · have c9p : ((mid : Int) < (e : Int)) = True := eq_true (by omega)
                have c10p : ((e : Int) < (b : Int)) = True := eq_true (by omega)
                simp (maxSteps := 2000000) (disch := first | omega | assumption) only [↓mCode, ↓mOps, mVal, mBase, vPtr, Int.reduceLT, Int.reduceAdd, Int.reduceSub, Int.reduceLE, Int.reduceToNat, Int.reduceNeg, ite_true, ite_false, Nat.reduceAdd, Nat.reduceSub, Nat.reduceMul, Nat.reduceEqDiff, Nat.reduceLeDiff, reduceIte, ite_ne, wrap_i64, boundN_int, e1_tys, e1_fns, fn68, Tryz.f68, resultsK_eq, ty3, ty22, ty31, r0', r1, r2, r3, r4, r18, r19, r20, y1, c5p, c6p, c7p, c8p, c9p, c10p]
                refine (ih D9 (by omega) c9 c10 (by omega) (by omega) (pp.all' (p := fun x => x.length ≤ 1000000) hs) tC tD).call rfl e1_subs ?_
                rintro vA hA nA ⟨gA, dA, DA, pA, sA', hnA, hkA⟩
                simp (maxSteps := 2000000) (disch := first | omega | assumption) only [↓mCode, ↓mOps, mVal, mBase, vPtr, Int.reduceLT, Int.reduceAdd, Int.reduceSub, Int.reduceLE, Int.reduceToNat, Int.reduceNeg, ite_true, ite_false, Nat.reduceAdd, Nat.reduceSub, Nat.reduceMul, Nat.reduceEqDiff, Nat.reduceLeDiff, reduceIte, ite_ne, wrap_i64, boundN_int, e1_tys, e1_fns, fn68, Tryz.f68, resultsK_eq, ty3, ty22, ty31, r0', r1, r2, r3, r4, r18, r19, r20, y1, c5p, c6p, c7p, c8p, c9p, c10p]
                exact K _ _ _ ⟨gA, dA, DA, pp.trans (pA.mono (by omega) (Nat.le_refl _)), merge_ok (by omega) (by omega) hc p1 s9 pA sA', by omega, fun j hj => (hkA j hj).trans (hk9' j hj)⟩
              · have c9p : ((mid : Int) < (e : Int)) = True := eq_true (by omega)
                have c10p : ((e : Int) < (b : Int)) = False := eq_false (by omega)
                have ee : e = b := by omega
                have sA' : Sorted ltR mid b d1 := ee ▸ tC
                simp (maxSteps := 2000000) (disch := first | omega | assumption) only [↓mCode, ↓mOps, mVal, mBase, vPtr, Int.reduceLT, Int.reduceAdd, Int.reduceSub, Int.reduceLE, Int.reduceToNat, Int.reduceNeg, ite_true, ite_false, Nat.reduceAdd, Nat.reduceSub, Nat.reduceMul, Nat.reduceEqDiff, Nat.reduceLeDiff, reduceIte, ite_ne, wrap_i64, boundN_int, e1_tys, e1_fns, fn68, Tryz.f68, resultsK_eq, ty3, ty22, ty31, r0', r1, r2, r3, r4, r18, r19, r20, y1, c5p, c6p, c7p, c8p, c9p, c10p]
                exact K _ _ _ ⟨g8, d1, D9, pp, merge_ok (by omega) (by omega) hc p1 s9 (PermD.refl _ _ _) sA', by omega, hk9'⟩
            · have c9p : ((mid : Int) < (e : Int)) = False := eq_false (by omega)
              have c10p := c9p
              have ee : mid = e := by omega
              have sA' : Sorted ltR mid b d1 := ee ▸ tD
              simp (maxSteps := 2000000) (disch := first | omega | assumption) only [↓mCode, ↓mOps, mVal, mBase, vPtr, Int.reduceLT, Int.reduceAdd, Int.reduceSub, Int.reduceLE, Int.reduceToNat, Int.reduceNeg, ite_true, ite_false, Nat.reduceAdd, Nat.reduceSub, Nat.reduceMul, Nat.reduceEqDiff, Nat.reduceLeDiff, reduceIte, ite_ne, wrap_i64, boundN_int, e1_tys, e1_fns, fn68, Tryz.f68, resultsK_eq, ty3, ty22, ty31, r0', r1, r2, r3, r4, r18, r19, r20, y1, c5p, c6p, c7p, c8p, c9p, c10p]
              exact K _ _ _ ⟨g8, d1, D9, pp, merge_ok (by omega) (by omega) hc p1 s9 (PermD.refl _ _ _) sA', by omega, hk9'⟩
        · have c5p : ((s : Int) < (m : Int)) = True := eq_true (by omega)
          have c6p : ((m : Int) < (e : Int)) = False := eq_false (by omega)
          have ee : m = e := by omega
          have D8 : DatA h' n0 n' id L g (rotD s m e d) := by rw [← ee, rotD_right]; exact D
          have hn8 : n' ≤ n' := Nat.le_refl _
          have hk8' := hk
          generalize rotD s m e d = d1 at *
          by_cases c7 : a < s
          · by_cases c8 : s < mid
            · have c7p : ((a : Int) < (s : Int)) = True := eq_true (by omega)
              have c8p : ((s : Int) < (mid : Int)) = True := eq_true (by omega)
              simp (maxSteps := 2000000) (disch := first | omega | assumption) only [↓mCode, ↓mOps, mVal, mBase, vPtr, Int.reduceLT, Int.reduceAdd, Int.reduceSub, Int.reduceLE, Int.reduceToNat, Int.reduceNeg, ite_true, ite_false, Nat.reduceAdd, Nat.reduceSub, Nat.reduceMul, Nat.reduceEqDiff, Nat.reduceLeDiff, reduceIte, ite_ne, wrap_i64, boundN_int, e1_tys, e1_fns, fn68, Tryz.f68, resultsK_eq, ty3, ty22, ty31, r0', r1, r2, r3, r4, r18, r19, r20, y1, c5p, c6p, c7p, c8p]
              refine (ih D8 (by omega) c7 c8 (by omega) (by omega) (p0.all' (p := fun x => x.length ≤ 1000000) hs) sA sB).call rfl e1_subs ?_
              rintro v9 h9 n9 ⟨g9, d9, D9, p1, s9, hn9, hk9⟩
              have hk9' : ∀ j, j < n0 → h9.get j = h.get j := fun j hj => (hk9 j hj).trans (hk8' j hj)
              have pp : PermD a b d d9 := p0.trans (p1.mono (Nat.le_refl _) (by omega))
              have tC : Sorted ltR mid e d9 := sC.congr fun i i1 i2 => p1.out (.inr i1)
              have tD : Sorted ltR e b d9 := sD.congr fun i i1 i2 => p1.out (.inr (by omega))
              by_cases c9 : mid < e
              · by_cases c10 : e < b
                · have c9p : ((mid : Int) < (e : Int)) = True := eq_true (by omega)
                  have c10p : ((e : Int) < (b : Int)) = True := eq_true (by omega)
                  simp (maxSteps := 2000000) (disch := first | omega | assumption) only [↓mCode, ↓mOps, mVal, mBase, vPtr, Int.reduceLT, Int.reduceAdd, Int.reduceSub, Int.reduceLE, Int.reduceToNat, Int.reduceNeg, ite_true, ite_false, Nat.reduceAdd, Nat.reduceSub, Nat.reduceMul, Nat.reduceEqDiff, Nat.reduceLeDiff, reduceIte, ite_ne, wrap_i64, boundN_int, e1_tys, e1_fns, fn68, Tryz.f68, resultsK_eq, ty3, ty22, ty31, r0', r1, r2, r3, r4, r18, r19, r20, y1, c5p, c6p, c7p, c8p, c9p, c10p]
                  refine (ih D9 (by omega) c9 c10 (by omega) (by omega) (pp.all' (p := fun x => x.length ≤ 1000000) hs) tC tD).call rfl e1_subs ?_
                  rintro vA hA nA ⟨gA, dA, DA, pA, sA', hnA, hkA⟩
                  simp (maxSteps := 2000000) (disch := first | omega | assumption) only [↓mCode, ↓mOps, mVal, mBase, vPtr, Int.reduceLT, Int.reduceAdd, Int.reduceSub, Int.reduceLE, Int.reduceToNat, Int.reduceNeg, ite_true, ite_false, Nat.reduceAdd, Nat.reduceSub, Nat.reduceMul, Nat.reduceEqDiff, Nat.reduceLeDiff, reduceIte, ite_ne, wrap_i64, boundN_int, e1_tys, e1_fns, fn68, Tryz.f68, resultsK_eq, ty3, ty22, ty31, r0', r1, r2, r3, r4, r18, r19, r20, y1, c5p, c6p, c7p, c8p, c9p, c10p]
                  exact K _ _ _ ⟨gA, dA, DA, pp.trans (pA.mono (by omega) (Nat.le_refl _)), merge_ok (by omega) (by omega) hc p1 s9 pA sA', by omega, fun j hj => (hkA j hj).trans (hk9' j hj)⟩
                · have c9p : ((mid : Int) < (e : Int)) = True := eq_true (by omega)
                  have c10p : ((e : Int) < (b : Int)) = False := eq_false (by omega)
                  have ee : e = b := by omega
                  have sA' : Sorted ltR mid b d9 := ee ▸ tC
                  simp (maxSteps := 2000000) (disch := first | omega | assumption) only [↓mCode, ↓mOps, mVal, mBase, vPtr, Int.reduceLT, Int.reduceAdd, Int.reduceSub, Int.reduceLE, Int.reduceToNat, Int.reduceNeg, ite_true, ite_false, Nat.reduceAdd, Nat.reduceSub, Nat.reduceMul, Nat.reduceEqDiff, Nat.reduceLeDiff, reduceIte, ite_ne, wrap_i64, boundN_int, e1_tys, e1_fns, fn68, Tryz.f68, resultsK_eq, ty3, ty22, ty31, r0', r1, r2, r3, r4, r18, r19, r20, y1, c5p, c6p, c7p, c8p, c9p, c10p]
                  exact K _ _ _ ⟨g9, d9, D9, pp, merge_ok (by omega) (by omega) hc p1 s9 (PermD.refl _ _ _) sA', by omega, hk9'⟩
              · have c9p : ((mid : Int) < (e : Int)) = False := eq_false (by omega)
                have c10p := c9p
                have ee : mid = e := by omega
                have sA' : Sorted ltR mid b d9 := ee ▸ tD
                simp (maxSteps := 2000000) (disch := first | omega | assumption) only [↓mCode, ↓mOps, mVal, mBase, vPtr, Int.reduceLT, Int.reduceAdd, Int.reduceSub, Int.reduceLE, Int.reduceToNat, Int.reduceNeg, ite_true, ite_false, Nat.reduceAdd, Nat.reduceSub, Nat.reduceMul, Nat.reduceEqDiff, Nat.reduceLeDiff, reduceIte, ite_ne, wrap_i64, boundN_int, e1_tys, e1_fns, fn68, Tryz.f68, resultsK_eq, ty3, ty22, ty31, r0', r1, r2, r3, r4, r18, r19, r20, y1, c5p, c6p, c7p, c8p, c9p, c10p]
                exact K _ _ _ ⟨g9, d9, D9, pp, merge_ok (by omega) (by omega) hc p1 s9 (PermD.refl _ _ _) sA', by omega, hk9'⟩
            · have c7p : ((a : Int) < (s : Int)) = True := eq_true (by omega)
              have c8p : ((s : Int) < (mid : Int)) = False := eq_false (by omega)
              have ee : s = mid := by omega
              have s9 : Sorted ltR a mid d1 := ee ▸ sA
              have D9 := D8
              have p1 : PermD a mid d1 d1 := PermD.refl _ _ _
              have hn9 : n' ≤ n' := Nat.le_refl _
              have hk9' := hk8'
              have pp : PermD a b d d1 := p0.trans (p1.mono (Nat.le_refl _) (by omega))
              have tC : Sorted ltR mid e d1 := sC.congr fun i i1 i2 => p1.out (.inr i1)
              have tD : Sorted ltR e b d1 := sD.congr fun i i1 i2 => p1.out (.inr (by omega))
              by_cases c9 : mid < e
              · by_cases c10 : e < b
                · have c9p : ((mid : Int) < (e : Int)) = True := eq_true (by omega)
                  have c10p : ((e : Int) < (b : Int)) = True := eq_true (by omega)
                  simp (maxSteps := 2000000) (disch := first | omega | assumption) only [↓mCode, ↓mOps, mVal, mBase, vPtr, Int.reduceLT, Int.reduceAdd, Int.reduceSub, Int.reduceLE, Int.reduceToNat, Int.reduceNeg, ite_true, ite_false, Nat.reduceAdd, Nat.reduceSub, Nat.reduceMul, Nat.reduceEqDiff, Nat.reduceLeDiff, reduceIte, ite_ne, wrap_i64, boundN_int, e1_tys, e1_fns, fn68, Tryz.f68, resultsK_eq, ty3, ty22, ty31, r0', r1, r2, r3, r4, r18, r19, r20, y1, c5p, c6p, c7p, c8p, c9p, c10p]
                  refine (ih D9 (by omega) c9 c10 (by omega) (by omega) (pp.all' (p := fun x => x.length ≤ 1000000) hs) tC tD).call rfl e1_subs ?_
                  rintro vA hA nA ⟨gA, dA, DA, pA, sA', hnA, hkA⟩
                  simp (maxSteps := 2000000) (disch := first | omega | assumption) only [↓mCode, ↓mOps, mVal, mBase, vPtr, Int.reduceLT, Int.reduceAdd, Int.reduceSub, Int.reduceLE, Int.reduceToNat, Int.reduceNeg, ite_true, ite_false, Nat.reduceAdd, Nat.reduceSub, Nat.reduceMul, Nat.reduceEqDiff, Nat.reduceLeDiff, reduceIte, ite_ne, wrap_i64, boundN_int, e1_tys, e1_fns, fn68, Tryz.f68, resultsK_eq, ty3, ty22, ty31, r0', r1, r2, r3, r4, r18, r19, r20, y1, c5p, c6p, c7p, c8p, c9p, c10p]
                  exact K _ _ _ ⟨gA, dA, DA, pp.trans (pA.mono (by omega) (Nat.le_refl _)), merge_ok (by omega) (by omega) hc p1 s9 pA sA', by omega, fun j hj => (hkA j hj).trans (hk9' j hj)⟩
                · have c9p : ((mid : Int) < (e : Int)) = True := eq_true (by omega)
                  have c10p : ((e : Int) < (b : Int)) = False := eq_false (by omega)
                  have ee : e = b := by omega
                  have sA' : Sorted ltR mid b d1 := ee ▸ tC
                  simp (maxSteps := 2000000) (disch := first | omega | assumption) only [↓mCode, ↓mOps, mVal, mBase, vPtr, Int.reduceLT, Int.reduceAdd, Int.reduceSub, Int.reduceLE, Int.reduceToNat, Int.reduceNeg, ite_true, ite_false, Nat.reduceAdd, Nat.reduceSub, Nat.reduceMul, Nat.reduceEqDiff, Nat.reduceLeDiff, reduceIte, ite_ne, wrap_i64, boundN_int, e1_tys, e1_fns, fn68, Tryz.f68, resultsK_eq, ty3, ty22, ty31, r0', r1, r2, r3, r4, r18, r19, r20, y1, c5p, c6p, c7p, c8p, c9p, c10p]
                  exact K _ _ _ ⟨g, d1, D9, pp, merge_ok (by omega) (by omega) hc p1 s9 (PermD.refl _ _ _) sA', by omega, hk9'⟩
              · have c9p : ((mid : Int) < (e : Int)) = False := eq_false (by omega)
                have c10p := c9p
                have ee : mid = e := by omega
                have sA' : Sorted ltR mid b d1 := ee ▸ tD
                simp (maxSteps := 2000000) (disch := first | omega | assumption) only [↓mCode, ↓mOps, mVal, mBase, vPtr, Int.reduceLT, Int.reduceAdd, Int.reduceSub, Int.reduceLE, Int.reduceToNat, Int.reduceNeg, ite_true, ite_false, Nat.reduceAdd, Nat.reduceSub, Nat.reduceMul, Nat.reduceEqDiff, Nat.reduceLeDiff, reduceIte, ite_ne, wrap_i64, boundN_int, e1_tys, e1_fns, fn68, Tryz.f68, resultsK_eq, ty3, ty22, ty31, r0', r1, r2, r3, r4, r18, r19, r20, y1, c5p, c6p, c7p, c8p, c9p, c10p]
                exact K _ _ _ ⟨g, d1, D9, pp, merge_ok (by omega) (by omega) hc p1 s9 (PermD.refl _ _ _) sA', by omega, hk9'⟩
          · have c7p : ((a : Int) < (s : Int)) = False := eq_false (by omega)
            have c8p := c7p
            have ee : s = a := by omega
            have s9 : Sorted ltR a mid d1 := ee ▸ sB
            have D9 := D8
            have p1 : PermD a mid d1 d1 := PermD.refl _ _ _
            have hn9 : n' ≤ n' := Nat.le_refl _
            have hk9' := hk8'
            have pp : PermD a b d d1 := p0.trans (p1.mono (Nat.le_refl _) (by omega))
            have tC : Sorted ltR mid e d1 := sC.congr fun i i1 i2 => p1.out (.inr i1)
            have tD : Sorted ltR e b d1 := sD.congr fun i i1 i2 => p1.out (.inr (by omega))
            by_cases c9 : mid < e
            · by_cases c10 : e < b
              · have c9p : ((mid : Int) < (e : Int)) = True := eq_true (by omega)
                have c10p : ((e : Int) < (b : Int)) = True := eq_true (by omega)
                simp (maxSteps := 2000000) (disch := first | omega | assumption) only [↓mCode, ↓mOps, mVal, mBase, vPtr, Int.reduceLT, Int.reduceAdd, Int.reduceSub, Int.reduceLE, Int.reduceToNat, Int.reduceNeg, ite_true, ite_false, Nat.reduceAdd, Nat.reduceSub, Nat.reduceMul, Nat.reduceEqDiff, Nat.reduceLeDiff, reduceIte, ite_ne, wrap_i64, boundN_int, e1_tys, e1_fns, fn68, Tryz.f68, resultsK_eq, ty3, ty22, ty31, r0', r1, r2, r3, r4, r18, r19, r20, y1, c5p, c6p, c7p, c8p, c9p, c10p]
                refine (ih D9 (by omega) c9 c10 (by omega) (by omega) (pp.all' (p := fun x => x.length ≤ 1000000) hs) tC tD).call rfl e1_subs ?_
                rintro vA hA nA ⟨gA, dA, DA, pA, sA', hnA, hkA⟩
                simp (maxSteps := 2000000) (disch := first | omega | assumption) only [↓mCode, ↓mOps, mVal, mBase, vPtr, Int.reduceLT, Int.reduceAdd, Int.reduceSub, Int.reduceLE, Int.reduceToNat, Int.reduceNeg, ite_true, ite_false, Nat.reduceAdd, Nat.reduceSub, Nat.reduceMul, Nat.reduceEqDiff, Nat.reduceLeDiff, reduceIte, ite_ne, wrap_i64, boundN_int, e1_tys, e1_fns, fn68, Tryz.f68, resultsK_eq, ty3, ty22, ty31, r0', r1, r2, r3, r4, r18, r19, r20, y1, c5p, c6p, c7p, c8p, c9p, c10p]
                exact K _ _ _ ⟨gA, dA, DA, pp.trans (pA.mono (by omega) (Nat.le_refl _)), merge_ok (by omega) (by omega) hc p1 s9 pA sA', by omega, fun j hj => (hkA j hj).trans (hk9' j hj)⟩
              · have c9p : ((mid : Int) < (e : Int)) = True := eq_true (by omega)
                have c10p : ((e : Int) < (b : Int)) = False := eq_false (by omega)
                have ee : e = b := by omega
                have sA' : Sorted ltR mid b d1 := ee ▸ tC
                simp (maxSteps := 2000000) (disch := first | omega | assumption) only [↓mCode, ↓mOps, mVal, mBase, vPtr, Int.reduceLT, Int.reduceAdd, Int.reduceSub, Int.reduceLE, Int.reduceToNat, Int.reduceNeg, ite_true, ite_false, Nat.reduceAdd, Nat.reduceSub, Nat.reduceMul, Nat.reduceEqDiff, Nat.reduceLeDiff, reduceIte, ite_ne, wrap_i64, boundN_int, e1_tys, e1_fns, fn68, Tryz.f68, resultsK_eq, ty3, ty22, ty31, r0', r1, r2, r3, r4, r18, r19, r20, y1, c5p, c6p, c7p, c8p, c9p, c10p]
                exact K _ _ _ ⟨g, d1, D9, pp, merge_ok (by omega) (by omega) hc p1 s9 (PermD.refl _ _ _) sA', by omega, hk9'⟩
            · have c9p : ((mid : Int) < (e : Int)) = False := eq_false (by omega)
              have c10p := c9p
              have ee : mid = e := by omega
              have sA' : Sorted ltR mid b d1 := ee ▸ tD
              simp (maxSteps := 2000000) (disch := first | omega | assumption) only [↓mCode, ↓mOps, mVal, mBase, vPtr, Int.reduceLT, Int.reduceAdd, Int.reduceSub, Int.reduceLE, Int.reduceToNat, Int.reduceNeg, ite_true, ite_false, Nat.reduceAdd, Nat.reduceSub, Nat.reduceMul, Nat.reduceEqDiff, Nat.reduceLeDiff, reduceIte, ite_ne, wrap_i64, boundN_int, e1_tys, e1_fns, fn68, Tryz.f68, resultsK_eq, ty3, ty22, ty31, r0', r1, r2, r3, r4, r18, r19, r20, y1, c5p, c6p, c7p, c8p, c9p, c10p]
              exact K _ _ _ ⟨g, d1, D9, pp, merge_ok (by omega) (by omega) hc p1 s9 (PermD.refl _ _ _) sA', by omega, hk9'⟩
      · have c5p : ((s : Int) < (m : Int)) = False := eq_false (by omega)
        have c6p := c5p
        have ee : s = m := by omega
        have D8 : DatA h' n0 n' id L g (rotD s m e d) := by rw [ee, rotD_left]; exact D
        have hn8 : n' ≤ n' := Nat.le_refl _
        have hk8' := hk
        generalize rotD s m e d = d1 at *
        by_cases c7 : a < s
        · by_cases c8 : s < mid
          · have c7p : ((a : Int) < (s : Int)) = True := eq_true (by omega)
            have c8p : ((s : Int) < (mid : Int)) = True := eq_true (by omega)
            simp (maxSteps := 2000000) (disch := first | omega | assumption) only [↓mCode, ↓mOps, mVal, mBase, vPtr, Int.reduceLT, Int.reduceAdd, Int.reduceSub, Int.reduceLE, Int.reduceToNat, Int.reduceNeg, ite_true, ite_false, Nat.reduceAdd, Nat.reduceSub, Nat.reduceMul, Nat.reduceEqDiff, Nat.reduceLeDiff, reduceIte, ite_ne, wrap_i64, boundN_int, e1_tys, e1_fns, fn68, Tryz.f68, resultsK_eq, ty3, ty22, ty31, r0', r1, r2, r3, r4, r18, r19, r20, y1, c5p, c6p, c7p, c8p]
            refine (ih D8 (by omega) c7 c8 (by omega) (by omega) (p0.all' (p := fun x => x.length ≤ 1000000) hs) sA sB).call rfl e1_subs ?_
            rintro v9 h9 n9 ⟨g9, d9, D9, p1, s9, hn9, hk9⟩
            have hk9' : ∀ j, j < n0 → h9.get j = h.get j := fun j hj => (hk9 j hj).trans (hk8' j hj)
            have pp : PermD a b d d9 := p0.trans (p1.mono (Nat.le_refl _) (by omega))
            have tC : Sorted ltR mid e d9 := sC.congr fun i i1 i2 => p1.out (.inr i1)
            have tD : Sorted ltR e b d9 := sD.congr fun i i1 i2 => p1.out (.inr (by omega))
            by_cases c9 : mid < e
            · by_cases c10 : e < b
              · have c9p : ((mid : Int) < (e : Int)) = True := eq_true (by omega)
                have c10p : ((e : Int) < (b : Int)) = True := eq_true (by omega)
                simp (maxSteps := 2000000) (disch := first | omega | assumption) only [↓mCode, ↓mOps, mVal, mBase, vPtr, Int.reduceLT, Int.reduceAdd, Int.reduceSub, Int.reduceLE, Int.reduceToNat, Int.reduceNeg, ite_true, ite_false, Nat.reduceAdd, Nat.reduceSub, Nat.reduceMul, Nat.reduceEqDiff, Nat.reduceLeDiff, reduceIte, ite_ne, wrap_i64, boundN_int, e1_tys, e1_fns, fn68, Tryz.f68, resultsK_eq, ty3, ty22, ty31, r0', r1, r2, r3, r4, r18, r19, r20, y1, c5p, c6p, c7p, c8p, c9p, c10p]
                refine (ih D9 (by omega) c9 c10 (by omega) (by omega) (pp.all' (p := fun x => x.length ≤ 1000000) hs) tC tD).call rfl e1_subs ?_
                rintro vA hA nA ⟨gA, dA, DA, pA, sA', hnA, hkA⟩
                simp (maxSteps := 2000000) (disch := first | omega | assumption) only [↓mCode, ↓mOps, mVal, mBase, vPtr, Int.reduceLT, Int.reduceAdd, Int.reduceSub, Int.reduceLE, Int.reduceToNat, Int.reduceNeg, ite_true, ite_false, Nat.reduceAdd, Nat.reduceSub, Nat.reduceMul, Nat.reduceEqDiff, Nat.reduceLeDiff, reduceIte, ite_ne, wrap_i64, boundN_int, e1_tys, e1_fns, fn68, Tryz.f68, resultsK_eq, ty3, ty22, ty31, r0', r1, r2, r3, r4, r18, r19, r20, y1, c5p, c6p, c7p, c8p, c9p, c10p]
                exact K _ _ _ ⟨gA, dA, DA, pp.trans (pA.mono (by omega) (Nat.le_refl _)), merge_ok (by omega) (by omega) hc p1 s9 pA sA', by omega, fun j hj => (hkA j hj).trans (hk9' j hj)⟩
              · have c9p : ((mid : Int) < (e : Int)) = True := eq_true (by omega)
                have c10p : ((e : Int) < (b : Int)) = False := eq_false (by omega)
                have ee : e = b := by omega
                have sA' : Sorted ltR mid b d9 := ee ▸ tC
                simp (maxSteps := 2000000) (disch := first | omega | assumption) only [↓mCode, ↓mOps, mVal, mBase, vPtr, Int.reduceLT, Int.reduceAdd, Int.reduceSub, Int.reduceLE, Int.reduceToNat, Int.reduceNeg, ite_true, ite_false, Nat.reduceAdd, Nat.reduceSub, Nat.reduceMul, Nat.reduceEqDiff, Nat.reduceLeDiff, reduceIte, ite_ne, wrap_i64, boundN_int, e1_tys, e1_fns, fn68, Tryz.f68, resultsK_eq, ty3, ty22, ty31, r0', r1, r2, r3, r4, r18, r19, r20, y1, c5p, c6p, c7p, c8p, c9p, c10p]
                exact K _ _ _ ⟨g9, d9, D9, pp, merge_ok (by omega) (by omega) hc p1 s9 (PermD.refl _ _ _) sA', by omega, hk9'⟩
            · have c9p : ((mid : Int) < (e : Int)) = False := eq_false (by omega)
              have c10p := c9p
              have ee : mid = e := by omega
              have sA' : Sorted ltR mid b d9 := ee ▸ tD
              simp (maxSteps := 2000000) (disch := first | omega | assumption) only [↓mCode, ↓mOps, mVal, mBase, vPtr, Int.reduceLT, Int.reduceAdd, Int.reduceSub, Int.reduceLE, Int.reduceToNat, Int.reduceNeg, ite_true, ite_false, Nat.reduceAdd, Nat.reduceSub, Nat.reduceMul, Nat.reduceEqDiff, Nat.reduceLeDiff, reduceIte, ite_ne, wrap_i64, boundN_int, e1_tys, e1_fns, fn68, Tryz.f68, resultsK_eq, ty3, ty22, ty31, r0', r1, r2, r3, r4, r18, r19, r20, y1, c5p, c6p, c7p, c8p, c9p, c10p]
              exact K _ _ _ ⟨g9, d9, D9, pp, merge_ok (by omega) (by omega) hc p1 s9 (PermD.refl _ _ _) sA', by omega, hk9'⟩
          · have c7p : ((a : Int) < (s : Int)) = True := eq_true (by omega)
            have c8p : ((s : Int) < (mid : Int)) = False := eq_false (by omega)
            have ee : s = mid := by omega
            have s9 : Sorted ltR a mid d1 := ee ▸ sA
            have D9 := D8
            have p1 : PermD a mid d1 d1 := PermD.refl _ _ _
            have hn9 : n' ≤ n' := Nat.le_refl _
            have hk9' := hk8'
            have pp : PermD a b d d1 := p0.trans (p1.mono (Nat.le_refl _) (by omega))
            have tC : Sorted ltR mid e d1 := sC.congr fun i i1 i2 => p1.out (.inr i1)
            have tD : Sorted ltR e b d1 := sD.congr fun i i1 i2 => p1.out (.inr (by omega))
            by_cases c9 : mid < e
            · by_cases c10 : e < b
              · have c9p : ((mid : Int) < (e : Int)) = True := eq_true (by omega)
                have c10p : ((e : Int) < (b : Int)) = True := eq_true (by omega)
                simp (maxSteps := 2000000) (disch := first | omega | assumption) only [↓mCode, ↓mOps, mVal, mBase, vPtr, Int.reduceLT, Int.reduceAdd, Int.reduceSub, Int.reduceLE, Int.reduceToNat, Int.reduceNeg, ite_true, ite_false, Nat.reduceAdd, Nat.reduceSub, Nat.reduceMul, Nat.reduceEqDiff, Nat.reduceLeDiff, reduceIte, ite_ne, wrap_i64, boundN_int, e1_tys, e1_fns, fn68, Tryz.f68, resultsK_eq, ty3, ty22, ty31, r0', r1, r2, r3, r4, r18, r19, r20, y1, c5p, c6p, c7p, c8p, c9p, c10p]
                refine (ih D9 (by omega) c9 c10 (by omega) (by omega) (pp.all' (p := fun x => x.length ≤ 1000000) hs) tC tD).call rfl e1_subs ?_
                rintro vA hA nA ⟨gA, dA, DA, pA, sA', hnA, hkA⟩
                simp (maxSteps := 2000000) (disch := first | omega | assumption) only [↓mCode, ↓mOps, mVal, mBase, vPtr, Int.reduceLT, Int.reduceAdd, Int.reduceSub, Int.reduceLE, Int.reduceToNat, Int.reduceNeg, ite_true, ite_false, Nat.reduceAdd, Nat.reduceSub, Nat.reduceMul, Nat.reduceEqDiff, Nat.reduceLeDiff, reduceIte, ite_ne, wrap_i64, boundN_int, e1_tys, e1_fns, fn68, Tryz.f68, resultsK_eq, ty3, ty22, ty31, r0', r1, r2, r3, r4, r18, r19, r20, y1, c5p, c6p, c7p, c8p, c9p, c10p]
                exact K _ _ _ ⟨gA, dA, DA, pp.trans (pA.mono (by omega) (Nat.le_refl _)), merge_ok (by omega) (by omega) hc p1 s9 pA sA', by omega, fun j hj => (hkA j hj).trans (hk9' j hj)⟩
              · have c9p : ((mid : Int) < (e : Int)) = True := eq_true (by omega)
                have c10p : ((e : Int) < (b : Int)) = False := eq_false (by omega)
                have ee : e = b := by omega
                have sA' : Sorted ltR mid b d1 := ee ▸ tC
                simp (maxSteps := 2000000) (disch := first | omega | assumption) only [↓mCode, ↓mOps, mVal, mBase, vPtr, Int.reduceLT, Int.reduceAdd, Int.reduceSub, Int.reduceLE, Int.reduceToNat, Int.reduceNeg, ite_true, ite_false, Nat.reduceAdd, Nat.reduceSub, Nat.reduceMul, Nat.reduceEqDiff, Nat.reduceLeDiff, reduceIte, ite_ne, wrap_i64, boundN_int, e1_tys, e1_fns, fn68, Tryz.f68, resultsK_eq, ty3, ty22, ty31, r0', r1, r2, r3, r4, r18, r19, r20, y1, c5p, c6p, c7p, c8p, c9p, c10p]
                exact K _ _ _ ⟨g, d1, D9, pp, merge_ok (by omega) (by omega) hc p1 s9 (PermD.refl _ _ _) sA', by omega, hk9'⟩
            · have c9p : ((mid : Int) < (e : Int)) = False := eq_false (by omega)
              have c10p := c9p
              have ee : mid = e := by omega
              have sA' : Sorted ltR mid b d1 := ee ▸ tD
              simp (maxSteps := 2000000) (disch := first | omega | assumption) only [↓mCode, ↓mOps, mVal, mBase, vPtr, Int.reduceLT, Int.reduceAdd, Int.reduceSub, Int.reduceLE, Int.reduceToNat, Int.reduceNeg, ite_true, ite_false, Nat.reduceAdd, Nat.reduceSub, Nat.reduceMul, Nat.reduceEqDiff, Nat.reduceLeDiff, reduceIte, ite_ne, wrap_i64, boundN_int, e1_tys, e1_fns, fn68, Tryz.f68, resultsK_eq, ty3, ty22, ty31, r0', r1, r2, r3, r4, r18, r19, r20, y1, c5p, c6p, c7p, c8p, c9p, c10p]
              exact K _ _ _ ⟨g, d1, D9, pp, merge_ok (by omega) (by omega) hc p1 s9 (PermD.refl _ _ _) sA', by omega, hk9'⟩
        · have c7p : ((a : Int) < (s : Int)) = False := eq_false (by omega)
          have c8p := c7p
          have ee : s = a := by omega
          have s9 : Sorted ltR a mid d1 := ee ▸ sB
          have D9 := D8
          have p1 : PermD a mid d1 d1 := PermD.refl _ _ _
          have hn9 : n' ≤ n' := Nat.le_refl _
          have hk9' := hk8'
          have pp : PermD a b d d1 := p0.trans (p1.mono (Nat.le_refl _) (by omega))
          have tC : Sorted ltR mid e d1 := sC.congr fun i i1 i2 => p1.out (.inr i1)
          have tD : Sorted ltR e b d1 := sD.congr fun i i1 i2 => p1.out (.inr (by omega))
          by_cases c9 : mid < e
          · by_cases c10 : e < b
            · have c9p : ((mid : Int) < (e : Int)) = True := eq_true (by omega)
              have c10p : ((e : Int) < (b : Int)) = True := eq_true (by omega)
              simp (maxSteps := 2000000) (disch := first | omega | assumption) only [↓mCode, ↓mOps, mVal, mBase, vPtr, Int.reduceLT, Int.reduceAdd, Int.reduceSub, Int.reduceLE, Int.reduceToNat, Int.reduceNeg, ite_true, ite_false, Nat.reduceAdd, Nat.reduceSub, Nat.reduceMul, Nat.reduceEqDiff, Nat.reduceLeDiff, reduceIte, ite_ne, wrap_i64, boundN_int, e1_tys, e1_fns, fn68, Tryz.f68, resultsK_eq, ty3, ty22, ty31, r0', r1, r2, r3, r4, r18, r19, r20, y1, c5p, c6p, c7p, c8p, c9p, c10p]
              refine (ih D9 (by omega) c9 c10 (by omega) (by omega) (pp.all' (p := fun x => x.length ≤ 1000000) hs) tC tD).call rfl e1_subs ?_
              rintro vA hA nA ⟨gA, dA, DA, pA, sA', hnA, hkA⟩
              simp (maxSteps := 2000000) (disch := first | omega | assumption) only [↓mCode, ↓mOps, mVal, mBase, vPtr, Int.reduceLT, Int.reduceAdd, Int.reduceSub, Int.reduceLE, Int.reduceToNat, Int.reduceNeg, ite_true, ite_false, Nat.reduceAdd, Nat.reduceSub, Nat.reduceMul, Nat.reduceEqDiff, Nat.reduceLeDiff, reduceIte, ite_ne, wrap_i64, boundN_int, e1_tys, e1_fns, fn68, Tryz.f68, resultsK_eq, ty3, ty22, ty31, r0', r1, r2, r3, r4, r18, r19, r20, y1, c5p, c6p, c7p, c8p, c9p, c10p]
              exact K _ _ _ ⟨gA, dA, DA, pp.trans (pA.mono (by omega) (Nat.le_refl _)), merge_ok (by omega) (by omega) hc p1 s9 pA sA', by omega, fun j hj => (hkA j hj).trans (hk9' j hj)⟩
            · have c9p : ((mid : Int) < (e : Int)) = True := eq_true (by omega)
              have c10p : ((e : Int) < (b : Int)) = False := eq_false (by omega)
              have ee : e = b := by omega
              have sA' : Sorted ltR mid b d1 := ee ▸ tC
              simp (maxSteps := 2000000) (disch := first | omega | assumption) only [↓mCode, ↓mOps, mVal, mBase, vPtr, Int.reduceLT, Int.reduceAdd, Int.reduceSub, Int.reduceLE, Int.reduceToNat, Int.reduceNeg, ite_true, ite_false, Nat.reduceAdd, Nat.reduceSub, Nat.reduceMul, Nat.reduceEqDiff, Nat.reduceLeDiff, reduceIte, ite_ne, wrap_i64, boundN_int, e1_tys, e1_fns, fn68, Tryz.f68, resultsK_eq, ty3, ty22, ty31, r0', r1, r2, r3, r4, r18, r19, r20, y1, c5p, c6p, c7p, c8p, c9p, c10p]
              exact K _ _ _ ⟨g, d1, D9, pp, merge_ok (by omega) (by omega) hc p1 s9 (PermD.refl _ _ _) sA', by omega, hk9'⟩
          · have c9p : ((mid : Int) < (e : Int)) = False := eq_false (by omega)
            have c10p := c9p
            have ee : mid = e := by omega
            have sA' : Sorted ltR mid b d1 := ee ▸ tD
            simp (maxSteps := 2000000) (disch := first | omega | assumption) only [↓mCode, ↓mOps, mVal, mBase, vPtr, Int.reduceLT, Int.reduceAdd, Int.reduceSub, Int.reduceLE, Int.reduceToNat, Int.reduceNeg, ite_true, ite_false, Nat.reduceAdd, Nat.reduceSub, Nat.reduceMul, Nat.reduceEqDiff, Nat.reduceLeDiff, reduceIte, ite_ne, wrap_i64, boundN_int, e1_tys, e1_fns, fn68, Tryz.f68, resultsK_eq, ty3, ty22, ty31, r0', r1, r2, r3, r4, r18, r19, r20, y1, c5p, c6p, c7p, c8p, c9p, c10p]
            exact K _ _ _ ⟨g, d1, D9, pp, merge_ok (by omega) (by omega) hc p1 s9 (PermD.refl _ _ _) sA', by omega, hk9'⟩
end Go.Mir
