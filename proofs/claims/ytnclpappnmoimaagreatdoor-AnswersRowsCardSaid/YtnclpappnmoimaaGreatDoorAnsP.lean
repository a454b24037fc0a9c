/- Walks: slices.symMergeCmpFunc over rows, the second row of one element. -/
import Derived.Test.YtnclpappnmoimaaGreatDoorAnsN
set_option linter.unusedSimpArgs false
set_option linter.unusedVariables false
namespace Go.Mir
open Go Go.Proofs Go.Srt
set_option maxRecDepth 4000
set_option maxHeartbeats 8000000

theorem conv_u64 {m : Nat} {k : V → Out} (h : m < 18446744073709551616) : convInt .u64 (m : Int) k = k (.int .u64 (m : Int)) := by
  have : IntKind.wrap .u64 (m : Int) = (m : Int) := by simp only [IntKind.wrap, IntKind.bits, IntKind.signed, Bool.false_and, Bool.false_eq_true, if_false]; omega
  show wrapK .u64 (m : Int) k = _
  show fInt _ _ = _; rw [fInt_eq, this]
theorem shr_one {m : Nat} {k : V → Out} : intBin .shr .u64 (m : Int) .u64 1 k = k (.int .u64 ((m / 2 : Nat) : Int)) := by
  have e : (m : Int).fdiv 2 = ((m / 2 : Nat) : Int) := by rw [Int.fdiv_eq_ediv_of_nonneg _ (by decide)]; omega
  have : Go.binOp .shr 0 (.int .u64 (m : Int)) (.int .u64 1) = .pure (.int .u64 ((m : Int).fdiv 2)) := rfl
  show gen .shr .u64 (m : Int) .u64 1 k = _; unfold gen; rw [this, e, genI_int]
theorem tb169 : toBytes tys 145 = false := by kernel_rfl
theorem tb3 : toBytes tys 3 = false := by kernel_rfl
theorem convK_169 {h : T O} {z : Int} {k : V → Out} : convK tys h 3 145 (.int .i64 z) k = convInt .u64 z k := by
  unfold convK; rw [ty3, ty145, om_some, om_some]
theorem convK_3 {h : T O} {z : Int} {k : V → Out} : convK tys h 145 3 (.int .u64 z) k = convInt .i64 z k := by
  unfold convK; rw [ty3, ty145, om_some, om_some]

section
variable {d : Nat → List Tm} {a m b p c : Nat}
theorem up_t (O : Ord ltR) (hb : Sorted ltR m b d) {h x : Nat} (h1 : m ≤ h) (h2 : h < b) (e : ltR (d h) (d x) = true) {k : Nat} (k1 : m ≤ k) (k2 : k ≤ h) : ltR (d k) (d x) = true := by
  cases e2 : ltR (d k) (d x) with
  | true => rfl
  | false => have := O.ntrans _ _ _ e2 (hb.le O k1 k2 h2); rw [e] at this; cases this
theorem up_f (O : Ord ltR) (hb : Sorted ltR m b d) {h x : Nat} (h1 : m ≤ h) (e : ltR (d h) (d x) = false) {k : Nat} (k1 : h ≤ k) (k2 : k < b) : ltR (d k) (d x) = false :=
  O.ntrans _ _ _ e (hb.le O h1 k1 k2)
theorem dn_f (O : Ord ltR) (ha : Sorted ltR a m d) {h x : Nat} (h2 : h < m) (e : ltR (d x) (d h) = false) {k : Nat} (k1 : a ≤ k) (k2 : k ≤ h) : ltR (d x) (d k) = false :=
  O.ntrans _ _ _ (ha.le O k1 k2 h2) e
theorem dn_t (O : Ord ltR) (ha : Sorted ltR a m d) {h x : Nat} (h1 : a ≤ h) (e : ltR (d x) (d h) = true) {k : Nat} (k1 : h ≤ k) (k2 : k < m) : ltR (d x) (d k) = true := by
  cases e2 : ltR (d x) (d k) with
  | true => rfl
  | false => have := O.ntrans _ _ _ (ha.le O h1 k1 k2) e2; rw [e] at this; cases this

/-- the places of the merge's search -/
theorem place (h1 : a < m) (h2 : m < b) (hp : p = (a + b) / 2 + m - 1) (l : s0 a m b ≤ c) (r : c < r0 a m b) : a ≤ c ∧ c < m ∧ m ≤ p - c ∧ p - c < b ∧ c ≤ p := by
  unfold s0 at l; unfold r0 at r
  split at l <;> rename_i q <;> simp only [q, if_true, if_false] at r <;> omega
theorem s0_le (h1 : a < m) (h2 : m < b) : s0 a m b ≤ r0 a m b := by
  unfold s0 r0
  split <;> omega
theorem r0_le (h1 : a < m) (h2 : m < b) : r0 a m b ≤ b := by
  unfold r0
  split <;> omega
theorem yes_step (O : Ord ltR) (h1 : a < m) (h2 : m < b) (hp : p = (a + b) / 2 + m - 1) (ha : Sorted ltR a m d) (hb : Sorted ltR m b d) (l : s0 a m b ≤ c) (r : c < r0 a m b)
    (e : ltR (d (p - c)) (d c) = false) {k : Nat} (k1 : s0 a m b ≤ k) (k2 : k ≤ c) : ltR (d (p - k)) (d k) = false := by
  have q1 := place h1 h2 hp l r
  have q2 := place (c := k) h1 h2 hp k1 (by omega)
  exact O.ntrans _ _ _ (ha.le O q2.1 k2 q1.2.1) (O.ntrans _ _ _ e (hb.le O q1.2.2.1 (by omega) q2.2.2.2.1))
theorem no_step (O : Ord ltR) (h1 : a < m) (h2 : m < b) (hp : p = (a + b) / 2 + m - 1) (ha : Sorted ltR a m d) (hb : Sorted ltR m b d) (l : s0 a m b ≤ c) (r : c < r0 a m b)
    (e : ltR (d (p - c)) (d c) = true) {k : Nat} (k1 : c ≤ k) (k2 : k < r0 a m b) : ltR (d (p - k)) (d k) = true := by
  have q1 := place h1 h2 hp l r
  have q2 := place (c := k) h1 h2 hp (by omega) k2
  cases e2 : ltR (d (p - k)) (d k) with
  | true => rfl
  | false =>
    have := O.ntrans _ _ _ (O.ntrans _ _ _ (ha.le O q1.1 k1 q2.2.1) e2) (hb.le O q2.2.2.1 (by omega) q1.2.2.2.1)
    rw [e] at this; cases this
end

/-- one element of the first row, put into the second -/
theorem symMergeA {h : T O} {n0 n id L a m b : Nat} {g : Nat → V} {d : Nat → List Tm} (D : DatA h n0 n id L g d) (hO : Ord ltR) (h1 : m = a + 1) (h2 : m < b) (hb : b ≤ L) (hL : L ≤ 1000) (h0 : n0 ≤ n) (hs : ∀ j, j < L → (d j).length ≤ 1000000) (s1 : Sorted ltR a m d) (s2 : Sorted ltR m b d) :
    Fn env1 68 [.slice id 0 L false 0 L, .int .i64 (a : Int), .int .i64 (m : Int), .int .i64 (b : Int), .func 13 [] []] h n (fun _ h' n' => ∃ g' d', DatA h' n0 n' id L g' d' ∧ PermD a b d d' ∧ Sorted ltR a b d' ∧ n ≤ n' ∧ ∀ j, j < n0 → h'.get j = h.get j) := by
  refine Fn.mk fn68 rfl fz68 (by simp) fun Q cs K => ?_
  have e1 : (m : Int) - (a : Int) = 1 := by omega
  simp (maxSteps := 2000000) (disch := first | omega | assumption) only [↓mCode, ↓mOps, mVal, mBase, vPtr, Int.reduceLT, Int.reduceAdd, Int.reduceSub, Int.reduceLE, Int.reduceToNat, Int.reduceNeg, ite_true, ite_false, Nat.reduceAdd, Nat.reduceSub, Nat.reduceMul, Nat.reduceEqDiff, Nat.reduceLeDiff, reduceIte, ite_ne, wrap_i64, boundN_int, e1_tys, e1_fns, fn68, Tryz.f68, resultsK_eq, ty3, ty22, ty31, e1]
  refine W_loopE (fun q regs h' n' => ∃ (i j : Nat), q = j - i ∧ m ≤ i ∧ i ≤ j ∧ j ≤ b ∧ regs.get 0 = some (.slice id 0 L false 0 L) ∧ regs.get 1 = some (.int .i64 (a : Int)) ∧ regs.get 4 = some (.func 13 [] []) ∧
    regs.get 10 = some (.int .i64 (i : Int)) ∧ regs.get 11 = some (.int .i64 (j : Int)) ∧ DatA h' n0 n' id L g d ∧ (∀ k, m ≤ k → k < i → ltR (d k) (d a) = true) ∧ (∀ k, j ≤ k → k < b → ltR (d k) (d a) = false) ∧ n ≤ n' ∧ ∀ j, j < n0 → h'.get j = h.get j)
    (fun regs h' n' => ∃ (i : Nat), m ≤ i ∧ i ≤ b ∧ regs.get 0 = some (.slice id 0 L false 0 L) ∧ regs.get 1 = some (.int .i64 (a : Int)) ∧
    regs.get 10 = some (.int .i64 (i : Int)) ∧ DatA h' n0 n' id L g d ∧ (∀ k, m ≤ k → k < i → ltR (d k) (d a) = true) ∧ (∀ k, i ≤ k → k < b → ltR (d k) (d a) = false) ∧ n ≤ n' ∧ ∀ j, j < n0 → h'.get j = h.get j)
    _ ⟨m, b, rfl, Nat.le_refl _, by omega, Nat.le_refl _, ?_, ?_, ?_, ?_, ?_, D, fun k k1 k2 => absurd k2 (by omega), fun k k1 k2 => absurd k2 (by omega), Nat.le_refl _, fun j hj => rfl⟩ ?_ ?_
  · simp (maxSteps := 2000000) (disch := first | omega | assumption) only [↓mCode, ↓mOps, mVal, mBase, vPtr, Int.reduceLT, Int.reduceAdd, Int.reduceSub, Int.reduceLE, Int.reduceToNat, Int.reduceNeg, ite_true, ite_false, Nat.reduceAdd, Nat.reduceSub, Nat.reduceMul, Nat.reduceEqDiff, Nat.reduceLeDiff, reduceIte, ite_ne, wrap_i64, boundN_int, e1_tys]
  · simp (maxSteps := 2000000) (disch := first | omega | assumption) only [↓mCode, ↓mOps, mVal, mBase, vPtr, Int.reduceLT, Int.reduceAdd, Int.reduceSub, Int.reduceLE, Int.reduceToNat, Int.reduceNeg, ite_true, ite_false, Nat.reduceAdd, Nat.reduceSub, Nat.reduceMul, Nat.reduceEqDiff, Nat.reduceLeDiff, reduceIte, ite_ne, wrap_i64, boundN_int, e1_tys]
  · simp (maxSteps := 2000000) (disch := first | omega | assumption) only [↓mCode, ↓mOps, mVal, mBase, vPtr, Int.reduceLT, Int.reduceAdd, Int.reduceSub, Int.reduceLE, Int.reduceToNat, Int.reduceNeg, ite_true, ite_false, Nat.reduceAdd, Nat.reduceSub, Nat.reduceMul, Nat.reduceEqDiff, Nat.reduceLeDiff, reduceIte, ite_ne, wrap_i64, boundN_int, e1_tys]
  · simp (maxSteps := 2000000) (disch := first | omega | assumption) only [↓mCode, ↓mOps, mVal, mBase, vPtr, Int.reduceLT, Int.reduceAdd, Int.reduceSub, Int.reduceLE, Int.reduceToNat, Int.reduceNeg, ite_true, ite_false, Nat.reduceAdd, Nat.reduceSub, Nat.reduceMul, Nat.reduceEqDiff, Nat.reduceLeDiff, reduceIte, ite_ne, wrap_i64, boundN_int, e1_tys]
  · simp (maxSteps := 2000000) (disch := first | omega | assumption) only [↓mCode, ↓mOps, mVal, mBase, vPtr, Int.reduceLT, Int.reduceAdd, Int.reduceSub, Int.reduceLE, Int.reduceToNat, Int.reduceNeg, ite_true, ite_false, Nat.reduceAdd, Nat.reduceSub, Nat.reduceMul, Nat.reduceEqDiff, Nat.reduceLeDiff, reduceIte, ite_ne, wrap_i64, boundN_int, e1_tys]
  · rintro t hexit q regs h' n' ⟨i, j, e0, hi, hij, hj, r0, r1, r4, r10, r11, D, ht, hf, hn, hk⟩ IH
    by_cases c1 : i < j
    · have c1' : (i : Int) < (j : Int) := by omega
      have e2 : (i : Int) + (j : Int) = ((i + j : Nat) : Int) := by omega
      have e3 : ∀ {k : V → Out}, convInt .u64 ((i + j : Nat) : Int) k = k (.int .u64 ((i + j : Nat) : Int)) := conv_u64 (by omega)
      have e4 : ∀ {k : V → Out}, intBin .shr .u64 ((i + j : Nat) : Int) .u64 1 k = k (.int .u64 (((i + j) / 2 : Nat) : Int)) := shr_one
      have e5 : ∀ {k : V → Out}, convInt .i64 (((i + j) / 2 : Nat) : Int) k = k (.int .i64 (((i + j) / 2 : Nat) : Int)) := convInt_i64 (by omega) (by omega)
      obtain ⟨c, hc⟩ : ∃ c, c = (i + j) / 2 := ⟨_, rfl⟩
      have hc1 : i ≤ c := by omega
      have hc2 : c < j := by omega
      rw [← hc] at e4 e5
      have hA : ∀ {k : V → Out}, cellAt h' id c k = k (g c) := D.at (by omega)
      have hB : ∀ {k : V → Out}, cellAt h' id a k = k (g a) := D.at (by omega)
      simp (maxSteps := 2000000) (disch := first | omega | assumption) only [↓mCode, ↓mOps, mVal, mBase, vPtr, Int.reduceLT, Int.reduceAdd, Int.reduceSub, Int.reduceLE, Int.reduceToNat, Int.reduceNeg, ite_true, ite_false, Nat.reduceAdd, Nat.reduceSub, Nat.reduceMul, Nat.reduceEqDiff, Nat.reduceLeDiff, reduceIte, ite_ne, wrap_i64, boundN_int, e1_tys, e1_fns, fn68, Tryz.f68, resultsK_eq, ty3, ty22, ty31, tb169, tb3, convK_169, convK_3, r0, r1, r4, r10, r11, c1', e2, e3, e4, e5]
      refine W_draw sr68_5 ss68_5 ?_ ?_
      · exact sk68_5
      simp (maxSteps := 2000000) (disch := first | omega | assumption) only [↓mCode, ↓mOps, mVal, mBase, vPtr, Int.reduceLT, Int.reduceAdd, Int.reduceSub, Int.reduceLE, Int.reduceToNat, Int.reduceNeg, ite_true, ite_false, Nat.reduceAdd, Nat.reduceSub, Nat.reduceMul, Nat.reduceEqDiff, Nat.reduceLeDiff, reduceIte, ite_ne, wrap_i64, boundN_int, e1_tys, e1_fns, fn68, Tryz.f68, resultsK_eq, ty3, ty22, ty31, r0, r1, r4, r10, r11, hA, hB, Nat.mul_one]
      refine (compare_ok (D.2.2.2 c (by omega)).1 (D.2.2.2 a (by omega)).1 (hs c (by omega)) (hs a (by omega))).call rfl e1_subs ?_
      rintro _ h8 n8 ⟨rfl, G⟩
      have D := D.ext G
      have hn8 : n ≤ n8 := Nat.le_trans hn G.1
      have hk8 : ∀ j, j < n0 → h8.get j = h.get j := fun j hj => (G.2 j (by omega)).trans (hk j hj)
      by_cases c3 : lexL cmpT (d c) (d a) < 0
      · simp (maxSteps := 2000000) (disch := first | omega | assumption) only [↓mCode, ↓mOps, mVal, mBase, vPtr, Int.reduceLT, Int.reduceAdd, Int.reduceSub, Int.reduceLE, Int.reduceToNat, Int.reduceNeg, ite_true, ite_false, Nat.reduceAdd, Nat.reduceSub, Nat.reduceMul, Nat.reduceEqDiff, Nat.reduceLeDiff, reduceIte, ite_ne, wrap_i64, boundN_int, e1_tys, e1_fns, fn68, Tryz.f68, resultsK_eq, ty3, ty22, ty31, r0, r1, r4, r10, r11, c3]
        exact IH (j - (c + 1)) _ _ _ (by omega) ⟨c + 1, j, rfl, by omega, by omega, hj, by simp (maxSteps := 2000000) (disch := first | omega | assumption) only [↓mCode, ↓mOps, mVal, mBase, vPtr, Int.reduceLT, Int.reduceAdd, Int.reduceSub, Int.reduceLE, Int.reduceToNat, Int.reduceNeg, ite_true, ite_false, Nat.reduceAdd, Nat.reduceSub, Nat.reduceMul, Nat.reduceEqDiff, Nat.reduceLeDiff, reduceIte, ite_ne, wrap_i64, boundN_int, r0], by simp (maxSteps := 2000000) (disch := first | omega | assumption) only [↓mCode, ↓mOps, mVal, mBase, vPtr, Int.reduceLT, Int.reduceAdd, Int.reduceSub, Int.reduceLE, Int.reduceToNat, Int.reduceNeg, ite_true, ite_false, Nat.reduceAdd, Nat.reduceSub, Nat.reduceMul, Nat.reduceEqDiff, Nat.reduceLeDiff, reduceIte, ite_ne, wrap_i64, boundN_int, r1], by simp (maxSteps := 2000000) (disch := first | omega | assumption) only [↓mCode, ↓mOps, mVal, mBase, vPtr, Int.reduceLT, Int.reduceAdd, Int.reduceSub, Int.reduceLE, Int.reduceToNat, Int.reduceNeg, ite_true, ite_false, Nat.reduceAdd, Nat.reduceSub, Nat.reduceMul, Nat.reduceEqDiff, Nat.reduceLeDiff, reduceIte, ite_ne, wrap_i64, boundN_int, r4], by simp (maxSteps := 2000000) (disch := first | omega | assumption) only [↓mCode, ↓mOps, mVal, mBase, vPtr, Int.reduceLT, Int.reduceAdd, Int.reduceSub, Int.reduceLE, Int.reduceToNat, Int.reduceNeg, ite_true, ite_false, Nat.reduceAdd, Nat.reduceSub, Nat.reduceMul, Nat.reduceEqDiff, Nat.reduceLeDiff, reduceIte, ite_ne, wrap_i64, boundN_int, r10]; rfl, by simp (maxSteps := 2000000) (disch := first | omega | assumption) only [↓mCode, ↓mOps, mVal, mBase, vPtr, Int.reduceLT, Int.reduceAdd, Int.reduceSub, Int.reduceLE, Int.reduceToNat, Int.reduceNeg, ite_true, ite_false, Nat.reduceAdd, Nat.reduceSub, Nat.reduceMul, Nat.reduceEqDiff, Nat.reduceLeDiff, reduceIte, ite_ne, wrap_i64, boundN_int, r11], D,
          fun k k1 k2 => up_t hO s2 (by omega) (by omega) (ltR_t c3) k1 (by omega), hf, hn8, hk8⟩
      · simp (maxSteps := 2000000) (disch := first | omega | assumption) only [↓mCode, ↓mOps, mVal, mBase, vPtr, Int.reduceLT, Int.reduceAdd, Int.reduceSub, Int.reduceLE, Int.reduceToNat, Int.reduceNeg, ite_true, ite_false, Nat.reduceAdd, Nat.reduceSub, Nat.reduceMul, Nat.reduceEqDiff, Nat.reduceLeDiff, reduceIte, ite_ne, wrap_i64, boundN_int, e1_tys, e1_fns, fn68, Tryz.f68, resultsK_eq, ty3, ty22, ty31, r0, r1, r4, r10, r11, c3]
        exact IH (c - i) _ _ _ (by omega) ⟨i, c, rfl, by omega, by omega, by omega, by simp (maxSteps := 2000000) (disch := first | omega | assumption) only [↓mCode, ↓mOps, mVal, mBase, vPtr, Int.reduceLT, Int.reduceAdd, Int.reduceSub, Int.reduceLE, Int.reduceToNat, Int.reduceNeg, ite_true, ite_false, Nat.reduceAdd, Nat.reduceSub, Nat.reduceMul, Nat.reduceEqDiff, Nat.reduceLeDiff, reduceIte, ite_ne, wrap_i64, boundN_int, r0], by simp (maxSteps := 2000000) (disch := first | omega | assumption) only [↓mCode, ↓mOps, mVal, mBase, vPtr, Int.reduceLT, Int.reduceAdd, Int.reduceSub, Int.reduceLE, Int.reduceToNat, Int.reduceNeg, ite_true, ite_false, Nat.reduceAdd, Nat.reduceSub, Nat.reduceMul, Nat.reduceEqDiff, Nat.reduceLeDiff, reduceIte, ite_ne, wrap_i64, boundN_int, r1], by simp (maxSteps := 2000000) (disch := first | omega | assumption) only [↓mCode, ↓mOps, mVal, mBase, vPtr, Int.reduceLT, Int.reduceAdd, Int.reduceSub, Int.reduceLE, Int.reduceToNat, Int.reduceNeg, ite_true, ite_false, Nat.reduceAdd, Nat.reduceSub, Nat.reduceMul, Nat.reduceEqDiff, Nat.reduceLeDiff, reduceIte, ite_ne, wrap_i64, boundN_int, r4], by simp (maxSteps := 2000000) (disch := first | omega | assumption) only [↓mCode, ↓mOps, mVal, mBase, vPtr, Int.reduceLT, Int.reduceAdd, Int.reduceSub, Int.reduceLE, Int.reduceToNat, Int.reduceNeg, ite_true, ite_false, Nat.reduceAdd, Nat.reduceSub, Nat.reduceMul, Nat.reduceEqDiff, Nat.reduceLeDiff, reduceIte, ite_ne, wrap_i64, boundN_int, r10], by simp (maxSteps := 2000000) (disch := first | omega | assumption) only [↓mCode, ↓mOps, mVal, mBase, vPtr, Int.reduceLT, Int.reduceAdd, Int.reduceSub, Int.reduceLE, Int.reduceToNat, Int.reduceNeg, ite_true, ite_false, Nat.reduceAdd, Nat.reduceSub, Nat.reduceMul, Nat.reduceEqDiff, Nat.reduceLeDiff, reduceIte, ite_ne, wrap_i64, boundN_int, r11], D,
          ht, fun k k1 k2 => up_f hO s2 (by omega) (ltR_f c3) k1 k2, hn8, hk8⟩
    · have c1' : ¬ (i : Int) < (j : Int) := by omega
      have e : j = i := by omega
      subst e
      simp (maxSteps := 2000000) (disch := first | omega | assumption) only [↓mCode, ↓mOps, mVal, mBase, vPtr, Int.reduceLT, Int.reduceAdd, Int.reduceSub, Int.reduceLE, Int.reduceToNat, Int.reduceNeg, ite_true, ite_false, Nat.reduceAdd, Nat.reduceSub, Nat.reduceMul, Nat.reduceEqDiff, Nat.reduceLeDiff, reduceIte, ite_ne, wrap_i64, boundN_int, e1_tys, e1_fns, fn68, Tryz.f68, resultsK_eq, ty3, ty22, ty31, r0, r1, r4, r10, r11, c1']
      exact hexit _ _ _ ⟨j, hi, hj, by simp (maxSteps := 2000000) (disch := first | omega | assumption) only [↓mCode, ↓mOps, mVal, mBase, vPtr, Int.reduceLT, Int.reduceAdd, Int.reduceSub, Int.reduceLE, Int.reduceToNat, Int.reduceNeg, ite_true, ite_false, Nat.reduceAdd, Nat.reduceSub, Nat.reduceMul, Nat.reduceEqDiff, Nat.reduceLeDiff, reduceIte, ite_ne, wrap_i64, boundN_int, r0], by simp (maxSteps := 2000000) (disch := first | omega | assumption) only [↓mCode, ↓mOps, mVal, mBase, vPtr, Int.reduceLT, Int.reduceAdd, Int.reduceSub, Int.reduceLE, Int.reduceToNat, Int.reduceNeg, ite_true, ite_false, Nat.reduceAdd, Nat.reduceSub, Nat.reduceMul, Nat.reduceEqDiff, Nat.reduceLeDiff, reduceIte, ite_ne, wrap_i64, boundN_int, r1], by simp (maxSteps := 2000000) (disch := first | omega | assumption) only [↓mCode, ↓mOps, mVal, mBase, vPtr, Int.reduceLT, Int.reduceAdd, Int.reduceSub, Int.reduceLE, Int.reduceToNat, Int.reduceNeg, ite_true, ite_false, Nat.reduceAdd, Nat.reduceSub, Nat.reduceMul, Nat.reduceEqDiff, Nat.reduceLeDiff, reduceIte, ite_ne, wrap_i64, boundN_int, r10], D, ht, hf, hn, hk⟩
  · rintro regs h' n' ⟨i, hi, hib, r0, r1, r10, D, ht, hf, hn, hk⟩
    simp (maxSteps := 2000000) (disch := first | omega | assumption) only [↓mCode, ↓mOps, mVal, mBase, vPtr, Int.reduceLT, Int.reduceAdd, Int.reduceSub, Int.reduceLE, Int.reduceToNat, Int.reduceNeg, ite_true, ite_false, Nat.reduceAdd, Nat.reduceSub, Nat.reduceMul, Nat.reduceEqDiff, Nat.reduceLeDiff, reduceIte, ite_ne, wrap_i64, boundN_int, e1_tys, e1_fns, fn68, Tryz.f68, resultsK_eq, ty3, ty22, ty31, r0, r1, r10]
    refine W_loop (fun q regs h' n' => ∃ (k : Nat) (g' : Nat → V), q = i - k ∧ a ≤ k ∧ k + 1 ≤ i ∧ regs.get 0 = some (.slice id 0 L false 0 L) ∧ regs.get 13 = some (.int .i64 (k : Int)) ∧
      regs.get 10 = some (.int .i64 (i : Int)) ∧ DatA h' n0 n' id L g' (rotD a (a + 1) (k + 1) d) ∧ n ≤ n' ∧ ∀ j, j < n0 → h'.get j = h.get j)
      _ ⟨a, g, rfl, Nat.le_refl _, by omega, ?_, ?_, ?_, by rw [walk_up0]; exact D, hn, hk⟩ ?_
    · simp (maxSteps := 2000000) (disch := first | omega | assumption) only [↓mCode, ↓mOps, mVal, mBase, vPtr, Int.reduceLT, Int.reduceAdd, Int.reduceSub, Int.reduceLE, Int.reduceToNat, Int.reduceNeg, ite_true, ite_false, Nat.reduceAdd, Nat.reduceSub, Nat.reduceMul, Nat.reduceEqDiff, Nat.reduceLeDiff, reduceIte, ite_ne, wrap_i64, boundN_int, r0]
    · simp (maxSteps := 2000000) (disch := first | omega | assumption) only [↓mCode, ↓mOps, mVal, mBase, vPtr, Int.reduceLT, Int.reduceAdd, Int.reduceSub, Int.reduceLE, Int.reduceToNat, Int.reduceNeg, ite_true, ite_false, Nat.reduceAdd, Nat.reduceSub, Nat.reduceMul, Nat.reduceEqDiff, Nat.reduceLeDiff, reduceIte, ite_ne, wrap_i64, boundN_int, r1]
    · simp (maxSteps := 2000000) (disch := first | omega | assumption) only [↓mCode, ↓mOps, mVal, mBase, vPtr, Int.reduceLT, Int.reduceAdd, Int.reduceSub, Int.reduceLE, Int.reduceToNat, Int.reduceNeg, ite_true, ite_false, Nat.reduceAdd, Nat.reduceSub, Nat.reduceMul, Nat.reduceEqDiff, Nat.reduceLeDiff, reduceIte, ite_ne, wrap_i64, boundN_int, r10]
    rintro q regs h' n' ⟨k, g', rfl, hak, hki, r0, r13, r10, D, hn, hk⟩ IH
    by_cases c1 : k + 1 < i
    · have c1' : (k : Int) < (i : Int) - 1 := by omega
      have e2 : ((k : Int) + 1).toNat = k + 1 := by omega
      have hA : ∀ {q : V → Out}, cellAt h' id k q = q (g' k) := D.at (by omega)
      have hB : ∀ {q : V → Out}, cellAt h' id (k + 1) q = q (g' (k + 1)) := D.at (by omega)
      have oA : oneV (g' k) = true := (D.2.2.2 k (by omega)).1.1.one
      have oB : oneV (g' (k + 1)) = true := (D.2.2.2 (k + 1) (by omega)).1.1.one
      have cA : cellsOf (g' k) = [g' k] := cellsOf_one oA
      have cB : cellsOf (g' (k + 1)) = [g' (k + 1)] := cellsOf_one oB
      obtain ⟨t9, g9, gt9⟩ := D.1
      simp (maxSteps := 2000000) (disch := first | omega | assumption) only [↓mCode, ↓mOps, mVal, mBase, vPtr, Int.reduceLT, Int.reduceAdd, Int.reduceSub, Int.reduceLE, Int.reduceToNat, Int.reduceNeg, ite_true, ite_false, Nat.reduceAdd, Nat.reduceSub, Nat.reduceMul, Nat.reduceEqDiff, Nat.reduceLeDiff, reduceIte, ite_ne, wrap_i64, boundN_int, e1_tys, e1_fns, fn68, Tryz.f68, resultsK_eq, ty3, ty22, ty31, r0, r13, r10, c1']
      refine W_draw sr68_11 ss68_11 ?_ ?_
      · exact sk68_11
      simp (maxSteps := 2000000) (disch := first | omega | assumption) only [↓mCode, ↓mOps, mVal, mBase, vPtr, Int.reduceLT, Int.reduceAdd, Int.reduceSub, Int.reduceLE, Int.reduceToNat, Int.reduceNeg, ite_true, ite_false, Nat.reduceAdd, Nat.reduceSub, Nat.reduceMul, Nat.reduceEqDiff, Nat.reduceLeDiff, reduceIte, ite_ne, wrap_i64, boundN_int, e1_tys, e1_fns, fn68, Tryz.f68, resultsK_eq, ty3, ty22, ty31, r0, r13, r10, e2, hA, hB, oA, oB, cA, cB, g9, Nat.mul_one]
      have hid := D.2.1
      refine IH (i - (k + 1)) _ _ _ (by omega) ⟨k + 1, swp g' k (k + 1), rfl, by omega, by omega, ?_, ?_, ?_, ?_, hn, fun x hx => ?_⟩
      · simp (maxSteps := 2000000) (disch := first | omega | assumption) only [↓mCode, ↓mOps, mVal, mBase, vPtr, Int.reduceLT, Int.reduceAdd, Int.reduceSub, Int.reduceLE, Int.reduceToNat, Int.reduceNeg, ite_true, ite_false, Nat.reduceAdd, Nat.reduceSub, Nat.reduceMul, Nat.reduceEqDiff, Nat.reduceLeDiff, reduceIte, ite_ne, wrap_i64, boundN_int, r0]
      · simp (maxSteps := 2000000) (disch := first | omega | assumption) only [↓mCode, ↓mOps, mVal, mBase, vPtr, Int.reduceLT, Int.reduceAdd, Int.reduceSub, Int.reduceLE, Int.reduceToNat, Int.reduceNeg, ite_true, ite_false, Nat.reduceAdd, Nat.reduceSub, Nat.reduceMul, Nat.reduceEqDiff, Nat.reduceLeDiff, reduceIte, ite_ne, wrap_i64, boundN_int, r13]; rfl
      · simp (maxSteps := 2000000) (disch := first | omega | assumption) only [↓mCode, ↓mOps, mVal, mBase, vPtr, Int.reduceLT, Int.reduceAdd, Int.reduceSub, Int.reduceLE, Int.reduceToNat, Int.reduceNeg, ite_true, ite_false, Nat.reduceAdd, Nat.reduceSub, Nat.reduceMul, Nat.reduceEqDiff, Nat.reduceLeDiff, reduceIte, ite_ne, wrap_i64, boundN_int, r10]
      · rw [← walk_up d hak]
        refine D.swap (by omega) (by omega) (T.get_put _ _ _ _ |>.trans (if_pos rfl)) (fun x hx => ?_) (fun x hx => by rw [T.get_put, if_neg hx, T.get_put, if_neg hx])
        unfold swp
        rw [T.get_put, T.get_put]
        by_cases k1 : x = k + 1
        · rw [if_pos k1, if_neg (by omega), if_pos k1]
        · by_cases k2 : x = k
          · rw [if_neg k1, if_pos k2, if_pos k2]
          · rw [if_neg k1, if_neg k2, if_neg k2, if_neg k1]; exact gt9 x hx
      · rw [T.get_put, if_neg (by omega), T.get_put, if_neg (by omega)]; exact hk x hx
    · have c1' : ¬ (k : Int) < (i : Int) - 1 := by omega
      have e : k + 1 = i := by omega
      simp (maxSteps := 2000000) (disch := first | omega | assumption) only [↓mCode, ↓mOps, mVal, mBase, vPtr, Int.reduceLT, Int.reduceAdd, Int.reduceSub, Int.reduceLE, Int.reduceToNat, Int.reduceNeg, ite_true, ite_false, Nat.reduceAdd, Nat.reduceSub, Nat.reduceMul, Nat.reduceEqDiff, Nat.reduceLeDiff, reduceIte, ite_ne, wrap_i64, boundN_int, e1_tys, e1_fns, fn68, Tryz.f68, resultsK_eq, ty3, ty22, ty31, r0, r13, r10, c1']
      rw [e] at D
      refine K _ _ _ ⟨g', _, D, (rotD_perm d (by omega) (by omega)).mono (Nat.le_refl _) hib, ?_, hn, hk⟩
      refine rot_sorted (Nat.le_refl _) (by omega) (by omega) hib (h1 ▸ s1) (h1 ▸ s2) (fun x y x1 x2 => absurd x2 (by omega)) (fun x y x1 x2 y1 y2 => ?_) (fun x y x1 x2 y1 y2 => ?_)
      · have e : x = a := by omega
        subst e; exact hO.asym _ _ (ht y (by omega) y2)
      · have e : x = a := by omega
        subst e; exact hf y y1 y2
end Go.Mir
namespace Go.Mir
open Go Go.Proofs Go.Srt
set_option maxRecDepth 4000
set_option maxHeartbeats 8000000

/-- one element of the second row, put into the first -/
theorem symMergeB {h : T O} {n0 n id L a m b : Nat} {g : Nat → V} {d : Nat → List Tm} (D : DatA h n0 n id L g d) (hO : Ord ltR) (h1 : a + 1 < m) (h2 : b = m + 1) (hb : b ≤ L) (hL : L ≤ 1000) (h0 : n0 ≤ n) (hs : ∀ j, j < L → (d j).length ≤ 1000000) (s1 : Sorted ltR a m d) (s2 : Sorted ltR m b d) :
    Fn env1 68 [.slice id 0 L false 0 L, .int .i64 (a : Int), .int .i64 (m : Int), .int .i64 (b : Int), .func 13 [] []] h n (fun _ h' n' => ∃ g' d', DatA h' n0 n' id L g' d' ∧ PermD a b d d' ∧ Sorted ltR a b d' ∧ n ≤ n' ∧ ∀ j, j < n0 → h'.get j = h.get j) := by
  refine Fn.mk fn68 rfl fz68 (by simp) fun Q cs K => ?_
  have e0 : ¬ (m : Int) - (a : Int) = 1 := by omega
  have e1 : (b : Int) - (m : Int) = 1 := by omega
  simp (maxSteps := 2000000) (disch := first | omega | assumption) only [↓mCode, ↓mOps, mVal, mBase, vPtr, Int.reduceLT, Int.reduceAdd, Int.reduceSub, Int.reduceLE, Int.reduceToNat, Int.reduceNeg, ite_true, ite_false, Nat.reduceAdd, Nat.reduceSub, Nat.reduceMul, Nat.reduceEqDiff, Nat.reduceLeDiff, reduceIte, ite_ne, wrap_i64, boundN_int, e1_tys, e1_fns, fn68, Tryz.f68, resultsK_eq, ty3, ty22, ty31, e0, e1]
  refine W_loopE (fun q regs h' n' => ∃ (i j : Nat), q = j - i ∧ a ≤ i ∧ i ≤ j ∧ j ≤ m ∧ regs.get 0 = some (.slice id 0 L false 0 L) ∧ regs.get 2 = some (.int .i64 (m : Int)) ∧ regs.get 4 = some (.func 13 [] []) ∧
    regs.get 14 = some (.int .i64 (i : Int)) ∧ regs.get 15 = some (.int .i64 (j : Int)) ∧ DatA h' n0 n' id L g d ∧ (∀ k, a ≤ k → k < i → ltR (d m) (d k) = false) ∧ (∀ k, j ≤ k → k < m → ltR (d m) (d k) = true) ∧ n ≤ n' ∧ ∀ j, j < n0 → h'.get j = h.get j)
    (fun regs h' n' => ∃ (i : Nat), a ≤ i ∧ i ≤ m ∧ regs.get 0 = some (.slice id 0 L false 0 L) ∧ regs.get 2 = some (.int .i64 (m : Int)) ∧
    regs.get 14 = some (.int .i64 (i : Int)) ∧ DatA h' n0 n' id L g d ∧ (∀ k, a ≤ k → k < i → ltR (d m) (d k) = false) ∧ (∀ k, i ≤ k → k < m → ltR (d m) (d k) = true) ∧ n ≤ n' ∧ ∀ j, j < n0 → h'.get j = h.get j)
    _ ⟨a, m, rfl, Nat.le_refl _, by omega, Nat.le_refl _, ?_, ?_, ?_, ?_, ?_, D, fun k k1 k2 => absurd k2 (by omega), fun k k1 k2 => absurd k2 (by omega), Nat.le_refl _, fun j hj => rfl⟩ ?_ ?_
  · simp (maxSteps := 2000000) (disch := first | omega | assumption) only [↓mCode, ↓mOps, mVal, mBase, vPtr, Int.reduceLT, Int.reduceAdd, Int.reduceSub, Int.reduceLE, Int.reduceToNat, Int.reduceNeg, ite_true, ite_false, Nat.reduceAdd, Nat.reduceSub, Nat.reduceMul, Nat.reduceEqDiff, Nat.reduceLeDiff, reduceIte, ite_ne, wrap_i64, boundN_int, e1_tys]
  · simp (maxSteps := 2000000) (disch := first | omega | assumption) only [↓mCode, ↓mOps, mVal, mBase, vPtr, Int.reduceLT, Int.reduceAdd, Int.reduceSub, Int.reduceLE, Int.reduceToNat, Int.reduceNeg, ite_true, ite_false, Nat.reduceAdd, Nat.reduceSub, Nat.reduceMul, Nat.reduceEqDiff, Nat.reduceLeDiff, reduceIte, ite_ne, wrap_i64, boundN_int, e1_tys]
  · simp (maxSteps := 2000000) (disch := first | omega | assumption) only [↓mCode, ↓mOps, mVal, mBase, vPtr, Int.reduceLT, Int.reduceAdd, Int.reduceSub, Int.reduceLE, Int.reduceToNat, Int.reduceNeg, ite_true, ite_false, Nat.reduceAdd, Nat.reduceSub, Nat.reduceMul, Nat.reduceEqDiff, Nat.reduceLeDiff, reduceIte, ite_ne, wrap_i64, boundN_int, e1_tys]
  · simp (maxSteps := 2000000) (disch := first | omega | assumption) only [↓mCode, ↓mOps, mVal, mBase, vPtr, Int.reduceLT, Int.reduceAdd, Int.reduceSub, Int.reduceLE, Int.reduceToNat, Int.reduceNeg, ite_true, ite_false, Nat.reduceAdd, Nat.reduceSub, Nat.reduceMul, Nat.reduceEqDiff, Nat.reduceLeDiff, reduceIte, ite_ne, wrap_i64, boundN_int, e1_tys]
  · simp (maxSteps := 2000000) (disch := first | omega | assumption) only [↓mCode, ↓mOps, mVal, mBase, vPtr, Int.reduceLT, Int.reduceAdd, Int.reduceSub, Int.reduceLE, Int.reduceToNat, Int.reduceNeg, ite_true, ite_false, Nat.reduceAdd, Nat.reduceSub, Nat.reduceMul, Nat.reduceEqDiff, Nat.reduceLeDiff, reduceIte, ite_ne, wrap_i64, boundN_int, e1_tys]
  · rintro t hexit q regs h' n' ⟨i, j, e0, hi, hij, hj, r0, r2, r4, r14, r15, D, ht, hf, hn, hk⟩ IH
    by_cases c1 : i < j
    · have c1' : (i : Int) < (j : Int) := by omega
      have e2 : (i : Int) + (j : Int) = ((i + j : Nat) : Int) := by omega
      have e3 : ∀ {k : V → Out}, convInt .u64 ((i + j : Nat) : Int) k = k (.int .u64 ((i + j : Nat) : Int)) := conv_u64 (by omega)
      have e4 : ∀ {k : V → Out}, intBin .shr .u64 ((i + j : Nat) : Int) .u64 1 k = k (.int .u64 (((i + j) / 2 : Nat) : Int)) := shr_one
      have e5 : ∀ {k : V → Out}, convInt .i64 (((i + j) / 2 : Nat) : Int) k = k (.int .i64 (((i + j) / 2 : Nat) : Int)) := convInt_i64 (by omega) (by omega)
      obtain ⟨c, hc⟩ : ∃ c, c = (i + j) / 2 := ⟨_, rfl⟩
      have hc1 : i ≤ c := by omega
      have hc2 : c < j := by omega
      rw [← hc] at e4 e5
      have hA : ∀ {k : V → Out}, cellAt h' id m k = k (g m) := D.at (by omega)
      have hB : ∀ {k : V → Out}, cellAt h' id c k = k (g c) := D.at (by omega)
      simp (maxSteps := 2000000) (disch := first | omega | assumption) only [↓mCode, ↓mOps, mVal, mBase, vPtr, Int.reduceLT, Int.reduceAdd, Int.reduceSub, Int.reduceLE, Int.reduceToNat, Int.reduceNeg, ite_true, ite_false, Nat.reduceAdd, Nat.reduceSub, Nat.reduceMul, Nat.reduceEqDiff, Nat.reduceLeDiff, reduceIte, ite_ne, wrap_i64, boundN_int, e1_tys, e1_fns, fn68, Tryz.f68, resultsK_eq, ty3, ty22, ty31, tb169, tb3, convK_169, convK_3, r0, r2, r4, r14, r15, c1', e2, e3, e4, e5]
      refine W_draw sr68_17 ss68_17 ?_ ?_
      · exact sk68_17
      simp (maxSteps := 2000000) (disch := first | omega | assumption) only [↓mCode, ↓mOps, mVal, mBase, vPtr, Int.reduceLT, Int.reduceAdd, Int.reduceSub, Int.reduceLE, Int.reduceToNat, Int.reduceNeg, ite_true, ite_false, Nat.reduceAdd, Nat.reduceSub, Nat.reduceMul, Nat.reduceEqDiff, Nat.reduceLeDiff, reduceIte, ite_ne, wrap_i64, boundN_int, e1_tys, e1_fns, fn68, Tryz.f68, resultsK_eq, ty3, ty22, ty31, r0, r2, r4, r14, r15, hA, hB, Nat.mul_one]
      refine (compare_ok (D.2.2.2 m (by omega)).1 (D.2.2.2 c (by omega)).1 (hs m (by omega)) (hs c (by omega))).call rfl e1_subs ?_
      rintro _ h8 n8 ⟨rfl, G⟩
      have D := D.ext G
      have hn8 : n ≤ n8 := Nat.le_trans hn G.1
      have hk8 : ∀ j, j < n0 → h8.get j = h.get j := fun j hj => (G.2 j (by omega)).trans (hk j hj)
      by_cases c3 : lexL cmpT (d m) (d c) < 0
      · simp (maxSteps := 2000000) (disch := first | omega | assumption) only [↓mCode, ↓mOps, mVal, mBase, vPtr, Int.reduceLT, Int.reduceAdd, Int.reduceSub, Int.reduceLE, Int.reduceToNat, Int.reduceNeg, ite_true, ite_false, Nat.reduceAdd, Nat.reduceSub, Nat.reduceMul, Nat.reduceEqDiff, Nat.reduceLeDiff, reduceIte, ite_ne, wrap_i64, boundN_int, e1_tys, e1_fns, fn68, Tryz.f68, resultsK_eq, ty3, ty22, ty31, r0, r2, r4, r14, r15, c3]
        exact IH (c - i) _ _ _ (by omega) ⟨i, c, rfl, by omega, by omega, by omega, by simp (maxSteps := 2000000) (disch := first | omega | assumption) only [↓mCode, ↓mOps, mVal, mBase, vPtr, Int.reduceLT, Int.reduceAdd, Int.reduceSub, Int.reduceLE, Int.reduceToNat, Int.reduceNeg, ite_true, ite_false, Nat.reduceAdd, Nat.reduceSub, Nat.reduceMul, Nat.reduceEqDiff, Nat.reduceLeDiff, reduceIte, ite_ne, wrap_i64, boundN_int, r0], by simp (maxSteps := 2000000) (disch := first | omega | assumption) only [↓mCode, ↓mOps, mVal, mBase, vPtr, Int.reduceLT, Int.reduceAdd, Int.reduceSub, Int.reduceLE, Int.reduceToNat, Int.reduceNeg, ite_true, ite_false, Nat.reduceAdd, Nat.reduceSub, Nat.reduceMul, Nat.reduceEqDiff, Nat.reduceLeDiff, reduceIte, ite_ne, wrap_i64, boundN_int, r2], by simp (maxSteps := 2000000) (disch := first | omega | assumption) only [↓mCode, ↓mOps, mVal, mBase, vPtr, Int.reduceLT, Int.reduceAdd, Int.reduceSub, Int.reduceLE, Int.reduceToNat, Int.reduceNeg, ite_true, ite_false, Nat.reduceAdd, Nat.reduceSub, Nat.reduceMul, Nat.reduceEqDiff, Nat.reduceLeDiff, reduceIte, ite_ne, wrap_i64, boundN_int, r4], by simp (maxSteps := 2000000) (disch := first | omega | assumption) only [↓mCode, ↓mOps, mVal, mBase, vPtr, Int.reduceLT, Int.reduceAdd, Int.reduceSub, Int.reduceLE, Int.reduceToNat, Int.reduceNeg, ite_true, ite_false, Nat.reduceAdd, Nat.reduceSub, Nat.reduceMul, Nat.reduceEqDiff, Nat.reduceLeDiff, reduceIte, ite_ne, wrap_i64, boundN_int, r14], by simp (maxSteps := 2000000) (disch := first | omega | assumption) only [↓mCode, ↓mOps, mVal, mBase, vPtr, Int.reduceLT, Int.reduceAdd, Int.reduceSub, Int.reduceLE, Int.reduceToNat, Int.reduceNeg, ite_true, ite_false, Nat.reduceAdd, Nat.reduceSub, Nat.reduceMul, Nat.reduceEqDiff, Nat.reduceLeDiff, reduceIte, ite_ne, wrap_i64, boundN_int, r15], D,
          ht, fun k k1 k2 => dn_t hO s1 (by omega) (ltR_t c3) k1 k2, hn8, hk8⟩
      · simp (maxSteps := 2000000) (disch := first | omega | assumption) only [↓mCode, ↓mOps, mVal, mBase, vPtr, Int.reduceLT, Int.reduceAdd, Int.reduceSub, Int.reduceLE, Int.reduceToNat, Int.reduceNeg, ite_true, ite_false, Nat.reduceAdd, Nat.reduceSub, Nat.reduceMul, Nat.reduceEqDiff, Nat.reduceLeDiff, reduceIte, ite_ne, wrap_i64, boundN_int, e1_tys, e1_fns, fn68, Tryz.f68, resultsK_eq, ty3, ty22, ty31, r0, r2, r4, r14, r15, c3]
        exact IH (j - (c + 1)) _ _ _ (by omega) ⟨c + 1, j, rfl, by omega, by omega, hj, by simp (maxSteps := 2000000) (disch := first | omega | assumption) only [↓mCode, ↓mOps, mVal, mBase, vPtr, Int.reduceLT, Int.reduceAdd, Int.reduceSub, Int.reduceLE, Int.reduceToNat, Int.reduceNeg, ite_true, ite_false, Nat.reduceAdd, Nat.reduceSub, Nat.reduceMul, Nat.reduceEqDiff, Nat.reduceLeDiff, reduceIte, ite_ne, wrap_i64, boundN_int, r0], by simp (maxSteps := 2000000) (disch := first | omega | assumption) only [↓mCode, ↓mOps, mVal, mBase, vPtr, Int.reduceLT, Int.reduceAdd, Int.reduceSub, Int.reduceLE, Int.reduceToNat, Int.reduceNeg, ite_true, ite_false, Nat.reduceAdd, Nat.reduceSub, Nat.reduceMul, Nat.reduceEqDiff, Nat.reduceLeDiff, reduceIte, ite_ne, wrap_i64, boundN_int, r2], by simp (maxSteps := 2000000) (disch := first | omega | assumption) only [↓mCode, ↓mOps, mVal, mBase, vPtr, Int.reduceLT, Int.reduceAdd, Int.reduceSub, Int.reduceLE, Int.reduceToNat, Int.reduceNeg, ite_true, ite_false, Nat.reduceAdd, Nat.reduceSub, Nat.reduceMul, Nat.reduceEqDiff, Nat.reduceLeDiff, reduceIte, ite_ne, wrap_i64, boundN_int, r4], by simp (maxSteps := 2000000) (disch := first | omega | assumption) only [↓mCode, ↓mOps, mVal, mBase, vPtr, Int.reduceLT, Int.reduceAdd, Int.reduceSub, Int.reduceLE, Int.reduceToNat, Int.reduceNeg, ite_true, ite_false, Nat.reduceAdd, Nat.reduceSub, Nat.reduceMul, Nat.reduceEqDiff, Nat.reduceLeDiff, reduceIte, ite_ne, wrap_i64, boundN_int, r14]; rfl, by simp (maxSteps := 2000000) (disch := first | omega | assumption) only [↓mCode, ↓mOps, mVal, mBase, vPtr, Int.reduceLT, Int.reduceAdd, Int.reduceSub, Int.reduceLE, Int.reduceToNat, Int.reduceNeg, ite_true, ite_false, Nat.reduceAdd, Nat.reduceSub, Nat.reduceMul, Nat.reduceEqDiff, Nat.reduceLeDiff, reduceIte, ite_ne, wrap_i64, boundN_int, r15], D,
          fun k k1 k2 => dn_f hO s1 (by omega) (ltR_f c3) k1 (by omega), hf, hn8, hk8⟩
    · have c1' : ¬ (i : Int) < (j : Int) := by omega
      have e : j = i := by omega
      subst e
      simp (maxSteps := 2000000) (disch := first | omega | assumption) only [↓mCode, ↓mOps, mVal, mBase, vPtr, Int.reduceLT, Int.reduceAdd, Int.reduceSub, Int.reduceLE, Int.reduceToNat, Int.reduceNeg, ite_true, ite_false, Nat.reduceAdd, Nat.reduceSub, Nat.reduceMul, Nat.reduceEqDiff, Nat.reduceLeDiff, reduceIte, ite_ne, wrap_i64, boundN_int, e1_tys, e1_fns, fn68, Tryz.f68, resultsK_eq, ty3, ty22, ty31, r0, r2, r4, r14, r15, c1']
      exact hexit _ _ _ ⟨j, hi, hj, by simp (maxSteps := 2000000) (disch := first | omega | assumption) only [↓mCode, ↓mOps, mVal, mBase, vPtr, Int.reduceLT, Int.reduceAdd, Int.reduceSub, Int.reduceLE, Int.reduceToNat, Int.reduceNeg, ite_true, ite_false, Nat.reduceAdd, Nat.reduceSub, Nat.reduceMul, Nat.reduceEqDiff, Nat.reduceLeDiff, reduceIte, ite_ne, wrap_i64, boundN_int, r0], by simp (maxSteps := 2000000) (disch := first | omega | assumption) only [↓mCode, ↓mOps, mVal, mBase, vPtr, Int.reduceLT, Int.reduceAdd, Int.reduceSub, Int.reduceLE, Int.reduceToNat, Int.reduceNeg, ite_true, ite_false, Nat.reduceAdd, Nat.reduceSub, Nat.reduceMul, Nat.reduceEqDiff, Nat.reduceLeDiff, reduceIte, ite_ne, wrap_i64, boundN_int, r2], by simp (maxSteps := 2000000) (disch := first | omega | assumption) only [↓mCode, ↓mOps, mVal, mBase, vPtr, Int.reduceLT, Int.reduceAdd, Int.reduceSub, Int.reduceLE, Int.reduceToNat, Int.reduceNeg, ite_true, ite_false, Nat.reduceAdd, Nat.reduceSub, Nat.reduceMul, Nat.reduceEqDiff, Nat.reduceLeDiff, reduceIte, ite_ne, wrap_i64, boundN_int, r14], D, ht, hf, hn, hk⟩
  · rintro regs h' n' ⟨i, hi, him, r0, r2, r14, D, ht, hf, hn, hk⟩
    simp (maxSteps := 2000000) (disch := first | omega | assumption) only [↓mCode, ↓mOps, mVal, mBase, vPtr, Int.reduceLT, Int.reduceAdd, Int.reduceSub, Int.reduceLE, Int.reduceToNat, Int.reduceNeg, ite_true, ite_false, Nat.reduceAdd, Nat.reduceSub, Nat.reduceMul, Nat.reduceEqDiff, Nat.reduceLeDiff, reduceIte, ite_ne, wrap_i64, boundN_int, e1_tys, e1_fns, fn68, Tryz.f68, resultsK_eq, ty3, ty22, ty31, r0, r2, r14]
    refine W_loop (fun q regs h' n' => ∃ (k : Nat) (g' : Nat → V), q = k ∧ i ≤ k ∧ k ≤ m ∧ regs.get 0 = some (.slice id 0 L false 0 L) ∧ regs.get 17 = some (.int .i64 (k : Int)) ∧
      regs.get 14 = some (.int .i64 (i : Int)) ∧ DatA h' n0 n' id L g' (rotD k m (m + 1) d) ∧ n ≤ n' ∧ ∀ j, j < n0 → h'.get j = h.get j)
      _ ⟨m, g, rfl, him, Nat.le_refl _, ?_, ?_, ?_, by rw [walk_down0]; exact D, hn, hk⟩ ?_
    · simp (maxSteps := 2000000) (disch := first | omega | assumption) only [↓mCode, ↓mOps, mVal, mBase, vPtr, Int.reduceLT, Int.reduceAdd, Int.reduceSub, Int.reduceLE, Int.reduceToNat, Int.reduceNeg, ite_true, ite_false, Nat.reduceAdd, Nat.reduceSub, Nat.reduceMul, Nat.reduceEqDiff, Nat.reduceLeDiff, reduceIte, ite_ne, wrap_i64, boundN_int, r0]
    · simp (maxSteps := 2000000) (disch := first | omega | assumption) only [↓mCode, ↓mOps, mVal, mBase, vPtr, Int.reduceLT, Int.reduceAdd, Int.reduceSub, Int.reduceLE, Int.reduceToNat, Int.reduceNeg, ite_true, ite_false, Nat.reduceAdd, Nat.reduceSub, Nat.reduceMul, Nat.reduceEqDiff, Nat.reduceLeDiff, reduceIte, ite_ne, wrap_i64, boundN_int, r2]
    · simp (maxSteps := 2000000) (disch := first | omega | assumption) only [↓mCode, ↓mOps, mVal, mBase, vPtr, Int.reduceLT, Int.reduceAdd, Int.reduceSub, Int.reduceLE, Int.reduceToNat, Int.reduceNeg, ite_true, ite_false, Nat.reduceAdd, Nat.reduceSub, Nat.reduceMul, Nat.reduceEqDiff, Nat.reduceLeDiff, reduceIte, ite_ne, wrap_i64, boundN_int, r14]
    rintro q regs h' n' ⟨k, g', e6, hik, hkm, r0, r17, r14, D, hn, hk⟩ IH
    by_cases c1 : k > i
    · have c1' : (k : Int) > (i : Int) := by omega
      have e2 : ((k : Int) - 1).toNat = k - 1 := by omega
      have hA : ∀ {q : V → Out}, cellAt h' id k q = q (g' k) := D.at (by omega)
      have hB : ∀ {q : V → Out}, cellAt h' id (k - 1) q = q (g' (k - 1)) := D.at (by omega)
      have oA : oneV (g' k) = true := (D.2.2.2 k (by omega)).1.1.one
      have oB : oneV (g' (k - 1)) = true := (D.2.2.2 (k - 1) (by omega)).1.1.one
      have cA : cellsOf (g' k) = [g' k] := cellsOf_one oA
      have cB : cellsOf (g' (k - 1)) = [g' (k - 1)] := cellsOf_one oB
      obtain ⟨t9, g9, gt9⟩ := D.1
      simp (maxSteps := 2000000) (disch := first | omega | assumption) only [↓mCode, ↓mOps, mVal, mBase, vPtr, Int.reduceLT, Int.reduceAdd, Int.reduceSub, Int.reduceLE, Int.reduceToNat, Int.reduceNeg, ite_true, ite_false, Nat.reduceAdd, Nat.reduceSub, Nat.reduceMul, Nat.reduceEqDiff, Nat.reduceLeDiff, reduceIte, ite_ne, wrap_i64, boundN_int, e1_tys, e1_fns, fn68, Tryz.f68, resultsK_eq, ty3, ty22, ty31, r0, r17, r14, c1']
      refine W_draw sr68_23 ss68_23 ?_ ?_
      · exact sk68_23
      simp (maxSteps := 2000000) (disch := first | omega | assumption) only [↓mCode, ↓mOps, mVal, mBase, vPtr, Int.reduceLT, Int.reduceAdd, Int.reduceSub, Int.reduceLE, Int.reduceToNat, Int.reduceNeg, ite_true, ite_false, Nat.reduceAdd, Nat.reduceSub, Nat.reduceMul, Nat.reduceEqDiff, Nat.reduceLeDiff, reduceIte, ite_ne, wrap_i64, boundN_int, e1_tys, e1_fns, fn68, Tryz.f68, resultsK_eq, ty3, ty22, ty31, r0, r17, r14, e2, hA, hB, oA, oB, cA, cB, g9, Nat.mul_one]
      have hid := D.2.1
      refine IH (k - 1) _ _ _ (by omega) ⟨k - 1, swp g' k (k - 1), rfl, by omega, by omega, ?_, ?_, ?_, ?_, hn, fun x hx => ?_⟩
      · simp (maxSteps := 2000000) (disch := first | omega | assumption) only [↓mCode, ↓mOps, mVal, mBase, vPtr, Int.reduceLT, Int.reduceAdd, Int.reduceSub, Int.reduceLE, Int.reduceToNat, Int.reduceNeg, ite_true, ite_false, Nat.reduceAdd, Nat.reduceSub, Nat.reduceMul, Nat.reduceEqDiff, Nat.reduceLeDiff, reduceIte, ite_ne, wrap_i64, boundN_int, r0]
      · have e7 : (((k - 1 : Nat)) : Int) = (k : Int) - 1 := by omega
        rw [e7]; simp (maxSteps := 2000000) (disch := first | omega | assumption) only [↓mCode, ↓mOps, mVal, mBase, vPtr, Int.reduceLT, Int.reduceAdd, Int.reduceSub, Int.reduceLE, Int.reduceToNat, Int.reduceNeg, ite_true, ite_false, Nat.reduceAdd, Nat.reduceSub, Nat.reduceMul, Nat.reduceEqDiff, Nat.reduceLeDiff, reduceIte, ite_ne, wrap_i64, boundN_int, r17]
      · simp (maxSteps := 2000000) (disch := first | omega | assumption) only [↓mCode, ↓mOps, mVal, mBase, vPtr, Int.reduceLT, Int.reduceAdd, Int.reduceSub, Int.reduceLE, Int.reduceToNat, Int.reduceNeg, ite_true, ite_false, Nat.reduceAdd, Nat.reduceSub, Nat.reduceMul, Nat.reduceEqDiff, Nat.reduceLeDiff, reduceIte, ite_ne, wrap_i64, boundN_int, r14]
      · have ew := walk_down (m := m) (k := k - 1) d (by omega)
        rw [show k - 1 + 1 = k by omega] at ew
        rw [← ew]
        refine D.swap (by omega) (by omega) (T.get_put _ _ _ _ |>.trans (if_pos rfl)) (fun x hx => ?_) (fun x hx => by rw [T.get_put, if_neg hx, T.get_put, if_neg hx])
        unfold swp
        rw [T.get_put, T.get_put]
        by_cases k1 : x = k - 1
        · rw [if_pos k1, if_neg (by omega), if_pos k1]
        · by_cases k2 : x = k
          · rw [if_neg k1, if_pos k2, if_pos k2]
          · rw [if_neg k1, if_neg k2, if_neg k2, if_neg k1]; exact gt9 x hx
      · rw [T.get_put, if_neg (by omega), T.get_put, if_neg (by omega)]; exact hk x hx
    · have c1' : ¬ (k : Int) > (i : Int) := by omega
      have e : k = i := by omega
      subst e
      simp (maxSteps := 2000000) (disch := first | omega | assumption) only [↓mCode, ↓mOps, mVal, mBase, vPtr, Int.reduceLT, Int.reduceAdd, Int.reduceSub, Int.reduceLE, Int.reduceToNat, Int.reduceNeg, ite_true, ite_false, Nat.reduceAdd, Nat.reduceSub, Nat.reduceMul, Nat.reduceEqDiff, Nat.reduceLeDiff, reduceIte, ite_ne, wrap_i64, boundN_int, e1_tys, e1_fns, fn68, Tryz.f68, resultsK_eq, ty3, ty22, ty31, r0, r17, r14, c1']
      refine K _ _ _ ⟨g', _, D, (rotD_perm d hkm (by omega)).mono hi (by omega), ?_, hn, hk⟩
      refine rot_sorted hi hkm (by omega) (by omega) s1 s2 (fun x y x1 x2 y1 y2 => ?_) (fun x y x1 x2 y1 y2 => ?_) (fun x y x1 x2 y1 y2 => absurd y2 (by omega))
      · have e : y = m := by omega
        subst e; exact ht x x1 x2
      · have e : y = m := by omega
        subst e; exact hO.asym _ _ (hf x x1 x2)
end Go.Mir
