/- Walks: answers.Sort. -/
import Derived.Test.YtojkinikdcelbaaGreatDoorAnsQ
set_option linter.unusedSimpArgs false
set_option linter.unusedVariables false
set_option linter.defProp false
namespace Go.Mir
open Go Go.Proofs Go.Srt
set_option maxRecDepth 4000
set_option maxHeartbeats 8000000

theorem mul_i64 {x y z : Int} {k : V → Out} (h : x * y = z) (h1 : -9223372036854775808 ≤ z) (h2 : z ≤ 9223372036854775807) : intBin .mul .i64 x .i64 y k = k (.int .i64 z) := by
  have : Go.binOp .mul 0 (.int .i64 x) (.int .i64 y) = .pure (.int .i64 (IntKind.wrap .i64 (x * y))) := by simp [Go.binOp, Op.intArith]; rfl
  show gen .mul .i64 x .i64 y k = _; unfold gen; rw [this, h, wrap_i64 h1 h2, genI_int]

/-- a multiple -/
def Mul (k a : Nat) : Prop := ∃ x, a = k * x
theorem Mul.zero (k : Nat) : Mul k 0 := ⟨0, by simp⟩
theorem Mul.add {k a : Nat} (h : Mul k a) : Mul k (a + k) := by obtain ⟨x, rfl⟩ := h; exact ⟨x + 1, by rw [Nat.mul_add, Nat.mul_one]⟩
theorem Mul.half {k a : Nat} (h : Mul (2 * k) a) : Mul k a := by obtain ⟨x, rfl⟩ := h; exact ⟨2 * x, by rw [Nat.mul_comm 2 k, Nat.mul_assoc]⟩
theorem Mul.le {k a c : Nat} (ha : Mul k a) (hc : Mul k c) (h : c < a + k) : c ≤ a := by
  obtain ⟨x, rfl⟩ := ha; obtain ⟨y, rfl⟩ := hc
  have : k * y < k * (x + 1) := by rw [Nat.mul_add, Nat.mul_one]; exact h
  have := Nat.lt_of_mul_lt_mul_left this
  exact Nat.mul_le_mul_left k (by omega)
theorem Mul.lt {k a c : Nat} (ha : Mul k a) (hc : Mul k c) (h : c < a) : c + k ≤ a := by
  rcases Nat.lt_or_ge a (c + k) with h1 | h1
  · have := Mul.le hc ha h1; omega
  · exact h1

/-- sorted in blocks -/
def BlkS (bs L : Nat) (d : Nat → List Tm) : Prop := ∀ c, Mul bs c → Sorted ltR c (min (c + bs) L) d

theorem sorted_sub {a b a' b' : Nat} {d : Nat → List Tm} (h : Sorted ltR a b d) (h1 : a ≤ a') (h2 : b' ≤ b) : Sorted ltR a' b' d := fun i j hi hij hj => h i j (by omega) hij (by omega)
theorem sorted_none {a b : Nat} {d : Nat → List Tm} (h : b ≤ a) : Sorted ltR a b d := fun i j hi hij hj => by omega
theorem sorted_keep {a b p q : Nat} {d d' : Nat → List Tm} (h : Sorted ltR a b d) (hp : PermD p q d d') (hd : b ≤ p ∨ q ≤ a) : Sorted ltR a b d' :=
  h.congr fun i h1 h2 => hp.out (by omega)

theorem stable_ok {h : T O} {n0 n id L : Nat} {g : Nat → V} {d : Nat → List Tm} (D : DatA h n0 n id L g d) (hO : Ord ltR) (hL : L ≤ 1000) (h0 : n0 ≤ n) (hs : ∀ j, j < L → (d j).length ≤ 1000000) :
    Fn env1 65 [.slice id 0 L false 0 L, .int .i64 (L : Int), .func 43 [] []] h n (fun _ h' n' => ∃ g' d', DatA h' n0 n' id L g' d' ∧ PermD 0 L d d' ∧ Sorted ltR 0 L d' ∧ n ≤ n' ∧ ∀ j, j < n0 → h'.get j = h.get j) := by
  refine Fn.mk fn65 rfl fz65 (by simp) fun Q cs K => ?_
  simp (maxSteps := 2000000) (disch := first | omega | assumption) only [↓mCode, ↓mOps, mAll, seval, vPtr, ite_ne, wrap_i64, boundN_int, e1_tys, e1_fns, fn65, Tryz.f65]
  refine W_loopE (fun q regs h' n' => ∃ (a : Nat) (g' : Nat → V) (d' : Nat → List Tm), q = L - a ∧ a ≤ L ∧ Mul 20 a ∧ regs.get 0 = some (.slice id 0 L false 0 L) ∧ regs.get 1 = some (.int .i64 (L : Int)) ∧ regs.get 2 = some (.func 43 [] []) ∧
    regs.get 6 = some (.int .i64 20) ∧ regs.get 7 = some (.int .i64 (a : Int)) ∧ regs.get 8 = some (.int .i64 ((a + 20 : Nat) : Int)) ∧ DatA h' n0 n' id L g' d' ∧ PermD 0 L d d' ∧ (∀ c, Mul 20 c → c < a → Sorted ltR c (min (c + 20) L) d') ∧ n ≤ n' ∧ ∀ j, j < n0 → h'.get j = h.get j)
    (fun regs h' n' => ∃ (a : Nat) (g' : Nat → V) (d' : Nat → List Tm), a ≤ L ∧ L < a + 20 ∧ Mul 20 a ∧ regs.get 0 = some (.slice id 0 L false 0 L) ∧ regs.get 1 = some (.int .i64 (L : Int)) ∧ regs.get 2 = some (.func 43 [] []) ∧
    regs.get 6 = some (.int .i64 20) ∧ regs.get 7 = some (.int .i64 (a : Int)) ∧ DatA h' n0 n' id L g' d' ∧ PermD 0 L d d' ∧ (∀ c, Mul 20 c → c < a → Sorted ltR c (min (c + 20) L) d') ∧ n ≤ n' ∧ ∀ j, j < n0 → h'.get j = h.get j)
    _ ⟨0, g, d, rfl, by omega, Mul.zero _, ?_, ?_, ?_, ?_, ?_, ?_, D, PermD.refl _ _ _, fun c _ hc => absurd hc (by omega), Nat.le_refl _, fun j hj => rfl⟩ ?_ ?_
  · simp (maxSteps := 2000000) (disch := first | omega | assumption) only [↓mCode, ↓mOps, mAll, seval, vPtr, ite_ne, wrap_i64, boundN_int, e1_tys]
  · simp (maxSteps := 2000000) (disch := first | omega | assumption) only [↓mCode, ↓mOps, mAll, seval, vPtr, ite_ne, wrap_i64, boundN_int, e1_tys]
  · simp (maxSteps := 2000000) (disch := first | omega | assumption) only [↓mCode, ↓mOps, mAll, seval, vPtr, ite_ne, wrap_i64, boundN_int, e1_tys]
  · simp (maxSteps := 2000000) (disch := first | omega | assumption) only [↓mCode, ↓mOps, mAll, seval, vPtr, ite_ne, wrap_i64, boundN_int, e1_tys]
  · simp (maxSteps := 2000000) (disch := first | omega | assumption) only [↓mCode, ↓mOps, mAll, seval, vPtr, ite_ne, wrap_i64, boundN_int, e1_tys] <;> rfl
  · simp (maxSteps := 2000000) (disch := first | omega | assumption) only [↓mCode, ↓mOps, mAll, seval, vPtr, ite_ne, wrap_i64, boundN_int, e1_tys] <;> rfl
  · rintro t hexit q regs h' n' ⟨a, g', d', e0, ha, hm, r0, r1, r2, r6, r7, r8, D, hp, hb, hn, hk⟩ IH
    by_cases c1 : a + 20 ≤ L
    · have c1' : ((a + 20 : Nat) : Int) ≤ (L : Int) := by omega
      simp (maxSteps := 2000000) (disch := first | omega | assumption) only [↓mCode, ↓mOps, mAll, seval, vPtr, ite_ne, wrap_i64, boundN_int, e1_tys, e1_fns, fn65, Tryz.f65, r0, r1, r2, r6, r7, r8, c1']
      refine (insertion_ok D hO (by omega) c1 hL (by omega) (hp.all' (p := fun x => x.length ≤ 1000000) hs)).call rfl e1_subs ?_
      rintro v h8 n8 ⟨g8, d8, D8, p8, s8, hn8, hk8⟩
      have e3 : ((a + 20 : Nat) : Int) + 20 = ((a + 20 + 20 : Nat) : Int) := by omega
      simp (maxSteps := 2000000) (disch := first | omega | assumption) only [↓mCode, ↓mOps, mAll, seval, vPtr, ite_ne, wrap_i64, boundN_int, e1_tys, e1_fns, fn65, Tryz.f65, r0, r1, r2, r6, r7, r8, e3]
      refine IH (L - (a + 20)) _ _ _ (by omega) ⟨a + 20, g8, d8, rfl, c1, hm.add, by simp only [mBase, Nat.reduceEqDiff, Nat.reduceSub, reduceIte, r0], by simp only [mBase, Nat.reduceEqDiff, Nat.reduceSub, reduceIte, r1], by simp only [mBase, Nat.reduceEqDiff, Nat.reduceSub, reduceIte, r2], by simp only [mBase, Nat.reduceEqDiff, Nat.reduceSub, reduceIte, r6], by simp only [mBase, Nat.reduceEqDiff, Nat.reduceSub, reduceIte, r8], by simp only [mBase, Nat.reduceEqDiff, Nat.reduceSub, reduceIte, r8], D8, hp.trans (p8.mono (by omega) c1), fun c hc hlt => ?_, by omega, fun j hj => (hk8 j hj).trans (hk j hj)⟩
      have hle := Mul.le hm hc hlt
      by_cases e : c = a
      · subst e; exact sorted_sub s8 (Nat.le_refl _) (by omega)
      · have := Mul.lt hm hc (by omega)
        exact sorted_keep (hb c hc (by omega)) p8 (by omega)
    · have c1' : ¬ ((a + 20 : Nat) : Int) ≤ (L : Int) := by omega
      simp (maxSteps := 2000000) (disch := first | omega | assumption) only [↓mCode, ↓mOps, mAll, seval, vPtr, ite_ne, wrap_i64, boundN_int, e1_tys, e1_fns, fn65, Tryz.f65, r0, r1, r2, r6, r7, r8, c1']
      exact hexit _ _ _ ⟨a, g', d', ha, by omega, hm, by simp only [mBase, Nat.reduceEqDiff, Nat.reduceSub, reduceIte, r0], by simp only [mBase, Nat.reduceEqDiff, Nat.reduceSub, reduceIte, r1], by simp only [mBase, Nat.reduceEqDiff, Nat.reduceSub, reduceIte, r2], by simp only [mBase, Nat.reduceEqDiff, Nat.reduceSub, reduceIte, r6], by simp only [mBase, Nat.reduceEqDiff, Nat.reduceSub, reduceIte, r7], D, hp, hb, hn, hk⟩
  · rintro regs h' n' ⟨a, g', d', ha, hla, hm, r0, r1, r2, r6, r7, D, hp, hb, hn, hk⟩
    simp (maxSteps := 2000000) (disch := first | omega | assumption) only [↓mCode, ↓mOps, mAll, seval, vPtr, ite_ne, wrap_i64, boundN_int, e1_tys, e1_fns, fn65, Tryz.f65, r0, r1, r2, r6, r7]
    refine (insertion_ok D hO (by omega) (Nat.le_refl _) hL (by omega) (hp.all' (p := fun x => x.length ≤ 1000000) hs)).call rfl e1_subs ?_
    rintro v h8 n8 ⟨g8, d8, D8, p8, s8, hn8, hk8⟩
    have b8 : BlkS 20 L d8 := fun c hc => by
      rcases Nat.lt_trichotomy c a with hlt | rfl | hgt
      · have := Mul.lt hm hc hlt
        exact sorted_keep (hb c hc hlt) p8 (by omega)
      · exact sorted_sub s8 (Nat.le_refl _) (by omega)
      · have := Mul.lt hc hm hgt
        exact sorted_none (by omega)
    simp (maxSteps := 2000000) (disch := first | omega | assumption) only [↓mCode, ↓mOps, mAll, seval, vPtr, ite_ne, wrap_i64, boundN_int, e1_tys, e1_fns, fn65, Tryz.f65, r0, r1, r2, r6, r7]
    refine W_loop (fun q regs h' n' => ∃ (bs : Nat) (g' : Nat → V) (d' : Nat → List Tm), q = L - bs ∧ 20 ≤ bs ∧ bs ≤ 2000 ∧ regs.get 0 = some (.slice id 0 L false 0 L) ∧ regs.get 1 = some (.int .i64 (L : Int)) ∧ regs.get 2 = some (.func 43 [] []) ∧
      regs.get 6 = some (.int .i64 (bs : Int)) ∧ DatA h' n0 n' id L g' d' ∧ PermD 0 L d d' ∧ BlkS bs L d' ∧ n ≤ n' ∧ ∀ j, j < n0 → h'.get j = h.get j)
      _ ⟨20, g8, d8, rfl, by omega, by omega, ?_, ?_, ?_, ?_, D8, hp.trans (p8.mono (by omega) (Nat.le_refl _)), b8, by omega, fun j hj => (hk8 j hj).trans (hk j hj)⟩ ?_
    iterate 4
      · simp only [mBase, Nat.reduceEqDiff, Nat.reduceSub, reduceIte, r0, r1, r2, r6] <;> rfl
    rintro q regs h' n' ⟨bs, g', d', rfl, hb20, hb2, r0, r1, r2, r6, D, hp, hb, hn, hk⟩ IH
    by_cases c1 : bs < L
    · have c1' : (bs : Int) < (L : Int) := by omega
      have m1 : ∀ {k : V → Out}, intBin .mul .i64 2 .i64 (bs : Int) k = k (.int .i64 ((2 * bs : Nat) : Int)) := mul_i64 (by omega) (by omega) (by omega)
      have m2 : ∀ {k : V → Out}, intBin .mul .i64 (bs : Int) .i64 2 k = k (.int .i64 ((2 * bs : Nat) : Int)) := mul_i64 (by omega) (by omega) (by omega)
      simp (maxSteps := 2000000) (disch := first | omega | assumption) only [↓mCode, ↓mOps, mAll, seval, vPtr, ite_ne, wrap_i64, boundN_int, e1_tys, e1_fns, fn65, Tryz.f65, r0, r1, r2, r6, c1', m1]
      refine W_loopE (fun q regs h' n' => ∃ (a : Nat) (g' : Nat → V) (d' : Nat → List Tm), q = L - a ∧ a ≤ L ∧ Mul (2 * bs) a ∧ regs.get 0 = some (.slice id 0 L false 0 L) ∧ regs.get 1 = some (.int .i64 (L : Int)) ∧ regs.get 2 = some (.func 43 [] []) ∧
        regs.get 6 = some (.int .i64 (bs : Int)) ∧ regs.get 7 = some (.int .i64 (a : Int)) ∧ regs.get 8 = some (.int .i64 ((a + 2 * bs : Nat) : Int)) ∧ DatA h' n0 n' id L g' d' ∧ PermD 0 L d d' ∧ (∀ c, Mul (2 * bs) c → c < a → Sorted ltR c (min (c + 2 * bs) L) d') ∧ (∀ c, Mul bs c → a ≤ c → Sorted ltR c (min (c + bs) L) d') ∧ n ≤ n' ∧ ∀ j, j < n0 → h'.get j = h.get j)
        (fun regs h' n' => ∃ (a : Nat) (g' : Nat → V) (d' : Nat → List Tm), a ≤ L ∧ L < a + 2 * bs ∧ Mul (2 * bs) a ∧ regs.get 0 = some (.slice id 0 L false 0 L) ∧ regs.get 1 = some (.int .i64 (L : Int)) ∧ regs.get 2 = some (.func 43 [] []) ∧
        regs.get 6 = some (.int .i64 (bs : Int)) ∧ regs.get 7 = some (.int .i64 (a : Int)) ∧ DatA h' n0 n' id L g' d' ∧ PermD 0 L d d' ∧ (∀ c, Mul (2 * bs) c → c < a → Sorted ltR c (min (c + 2 * bs) L) d') ∧ (∀ c, Mul bs c → a ≤ c → Sorted ltR c (min (c + bs) L) d') ∧ n ≤ n' ∧ ∀ j, j < n0 → h'.get j = h.get j)
        _ ⟨0, g', d', rfl, by omega, Mul.zero _, ?_, ?_, ?_, ?_, ?_, ?_, D, hp, fun c _ hc => absurd hc (by omega), fun c hc _ => hb c hc, hn, hk⟩ ?_ ?_
      iterate 5
        · simp only [mBase, Nat.reduceEqDiff, Nat.reduceSub, reduceIte, r0, r1, r2, r6] <;> rfl
      · simp (maxSteps := 2000000) (disch := first | omega | assumption) only [↓mCode, ↓mOps, mAll, seval, vPtr, ite_ne, wrap_i64, boundN_int, r6] <;> rw [Nat.zero_add]
      · rintro t hexit q regs h' n' ⟨a, g', d', e0, ha, hm, r0, r1, r2, r6, r7, r8, D, hp, hA, hB, hn, hk⟩ IH2
        by_cases c2 : a + 2 * bs ≤ L
        · have c2' : ((a + 2 * bs : Nat) : Int) ≤ (L : Int) := by omega
          have e3 : (a : Int) + (bs : Int) = ((a + bs : Nat) : Int) := by omega
          have e4 : ((a + 2 * bs : Nat) : Int) + ((2 * bs : Nat) : Int) = ((a + 2 * bs + 2 * bs : Nat) : Int) := by omega
          simp (maxSteps := 2000000) (disch := first | omega | assumption) only [↓mCode, ↓mOps, mAll, seval, vPtr, ite_ne, wrap_i64, boundN_int, e1_tys, e1_fns, fn65, Tryz.f65, r0, r1, r2, r6, r7, r8, c2', m1, e3, e4]
          refine (symMerge_ok hO hL (2 * bs + 1) D (by omega) (by omega) (by omega) c2 (by omega) (hp.all' (p := fun x => x.length ≤ 1000000) hs) (sorted_sub (hB a hm.half (Nat.le_refl _)) (Nat.le_refl _) (by omega)) (sorted_sub (hB (a + bs) hm.half.add (by omega)) (Nat.le_refl _) (by omega))).call rfl e1_subs ?_
          rintro v h9 n9 ⟨g9, d9, D9, p9, s9, hn9, hk9⟩
          simp (maxSteps := 2000000) (disch := first | omega | assumption) only [↓mCode, ↓mOps, mAll, seval, vPtr, ite_ne, wrap_i64, boundN_int, e1_tys, e1_fns, fn65, Tryz.f65, r0, r1, r2, r6, r7, r8, m1, e4]
          refine IH2 (L - (a + 2 * bs)) _ _ _ (by omega) ⟨a + 2 * bs, g9, d9, rfl, c2, hm.add, by simp only [mBase, Nat.reduceEqDiff, Nat.reduceSub, reduceIte, r0], by simp only [mBase, Nat.reduceEqDiff, Nat.reduceSub, reduceIte, r1], by simp only [mBase, Nat.reduceEqDiff, Nat.reduceSub, reduceIte, r2], by simp only [mBase, Nat.reduceEqDiff, Nat.reduceSub, reduceIte, r6], by simp only [mBase, Nat.reduceEqDiff, Nat.reduceSub, reduceIte, r8], by simp only [mBase, Nat.reduceEqDiff, Nat.reduceSub, reduceIte, r8], D9, hp.trans (p9.mono (by omega) c2), fun c hc hlt => ?_, fun c hc hge => sorted_keep (hB c hc (by omega)) p9 (by omega), by omega, fun j hj => (hk9 j hj).trans (hk j hj)⟩
          have hle := Mul.le hm hc hlt
          by_cases e : c = a
          · subst e; exact sorted_sub s9 (Nat.le_refl _) (by omega)
          · have := Mul.lt hm hc (by omega)
            exact sorted_keep (hA c hc (by omega)) p9 (by omega)
        · have c2' : ¬ ((a + 2 * bs : Nat) : Int) ≤ (L : Int) := by omega
          simp (maxSteps := 2000000) (disch := first | omega | assumption) only [↓mCode, ↓mOps, mAll, seval, vPtr, ite_ne, wrap_i64, boundN_int, e1_tys, e1_fns, fn65, Tryz.f65, r0, r1, r2, r6, r7, r8, c2']
          exact hexit _ _ _ ⟨a, g', d', ha, by omega, hm, by simp only [mBase, Nat.reduceEqDiff, Nat.reduceSub, reduceIte, r0], by simp only [mBase, Nat.reduceEqDiff, Nat.reduceSub, reduceIte, r1], by simp only [mBase, Nat.reduceEqDiff, Nat.reduceSub, reduceIte, r2], by simp only [mBase, Nat.reduceEqDiff, Nat.reduceSub, reduceIte, r6], by simp only [mBase, Nat.reduceEqDiff, Nat.reduceSub, reduceIte, r7], D, hp, hA, hB, hn, hk⟩
      · rintro regs h' n' ⟨a, g', d', ha, hla, hm, r0, r1, r2, r6, r7, D, hp, hA, hB, hn, hk⟩
        have e3 : (a : Int) + (bs : Int) = ((a + bs : Nat) : Int) := by omega
        by_cases c2 : a + bs < L
        · have c2' : ((a + bs : Nat) : Int) < (L : Int) := by omega
          simp (maxSteps := 2000000) (disch := first | omega | assumption) only [↓mCode, ↓mOps, mAll, seval, vPtr, ite_ne, wrap_i64, boundN_int, e1_tys, e1_fns, fn65, Tryz.f65, r0, r1, r2, r6, r7, c2', e3]
          refine (symMerge_ok hO hL (2 * bs + 1) D (by omega) (by omega) c2 (Nat.le_refl _) (by omega) (hp.all' (p := fun x => x.length ≤ 1000000) hs) (sorted_sub (hB a hm.half (Nat.le_refl _)) (Nat.le_refl _) (by omega)) (sorted_sub (hB (a + bs) hm.half.add (by omega)) (Nat.le_refl _) (by omega))).call rfl e1_subs ?_
          rintro v h9 n9 ⟨g9, d9, D9, p9, s9, hn9, hk9⟩
          have b9 : BlkS (2 * bs) L d9 := fun c hc => by
            rcases Nat.lt_trichotomy c a with hlt | rfl | hgt
            · have := Mul.lt hm hc hlt
              exact sorted_keep (hA c hc hlt) p9 (by omega)
            · exact sorted_sub s9 (Nat.le_refl _) (by omega)
            · have := Mul.lt hc hm hgt
              exact sorted_none (by omega)
          simp (maxSteps := 2000000) (disch := first | omega | assumption) only [↓mCode, ↓mOps, mAll, seval, vPtr, ite_ne, wrap_i64, boundN_int, e1_tys, e1_fns, fn65, Tryz.f65, r0, r1, r2, r6, r7, m2]
          exact IH (L - 2 * bs) _ _ _ (by omega) ⟨2 * bs, g9, d9, rfl, by omega, by omega, by simp only [mBase, Nat.reduceEqDiff, Nat.reduceSub, reduceIte, r0], by simp only [mBase, Nat.reduceEqDiff, Nat.reduceSub, reduceIte, r1], by simp only [mBase, Nat.reduceEqDiff, Nat.reduceSub, reduceIte, r2], by simp only [mBase, Nat.reduceEqDiff, Nat.reduceSub, reduceIte, r6], D9, hp.trans (p9.mono (by omega) (Nat.le_refl _)), b9, by omega, fun j hj => (hk9 j hj).trans (hk j hj)⟩
        · have c2' : ¬ ((a + bs : Nat) : Int) < (L : Int) := by omega
          have b9 : BlkS (2 * bs) L d' := fun c hc => by
            rcases Nat.lt_trichotomy c a with hlt | rfl | hgt
            · exact hA c hc hlt
            · exact sorted_sub (hB c hc.half (Nat.le_refl _)) (Nat.le_refl _) (by omega)
            · have := Mul.lt hc hm hgt
              exact sorted_none (by omega)
          simp (maxSteps := 2000000) (disch := first | omega | assumption) only [↓mCode, ↓mOps, mAll, seval, vPtr, ite_ne, wrap_i64, boundN_int, e1_tys, e1_fns, fn65, Tryz.f65, r0, r1, r2, r6, r7, c2', e3, m2]
          exact IH (L - 2 * bs) _ _ _ (by omega) ⟨2 * bs, g', d', rfl, by omega, by omega, by simp only [mBase, Nat.reduceEqDiff, Nat.reduceSub, reduceIte, r0], by simp only [mBase, Nat.reduceEqDiff, Nat.reduceSub, reduceIte, r1], by simp only [mBase, Nat.reduceEqDiff, Nat.reduceSub, reduceIte, r2], by simp only [mBase, Nat.reduceEqDiff, Nat.reduceSub, reduceIte, r6], D, hp, b9, hn, hk⟩
    · have c1' : ¬ (bs : Int) < (L : Int) := by omega
      simp (maxSteps := 2000000) (disch := first | omega | assumption) only [↓mCode, ↓mOps, mAll, seval, vPtr, ite_ne, wrap_i64, boundN_int, e1_tys, e1_fns, fn65, Tryz.f65, r0, r1, r2, r6, c1']
      exact K _ _ _ ⟨g', d', D, hp, sorted_sub (hb 0 (Mul.zero _)) (Nat.le_refl _) (by omega), hn, hk⟩

/-- no rows -/
theorem insertion_nil {h : T O} {n : Nat} : Fn env1 96 [.base (.slice none 0 0), .int .i64 0, .int .i64 0, .func 43 [] []] h n (fun _ h' n' => h' = h ∧ n' = n) := by
  refine Fn.mk fn96 rfl fz96 (by simp) fun Q cs K => ?_
  simp (maxSteps := 2000000) (disch := first | omega | assumption) only [↓mCode, ↓mOps, mAll, seval, vPtr, ite_ne, wrap_i64, boundN_int, e1_tys, e1_fns, fn96, Tryz.f96]
  refine W_loop (fun q regs h' n' => q = 0 ∧ regs.get 2 = some (.int .i64 0) ∧ regs.get 8 = some (.int .i64 1) ∧ h' = h ∧ n' = n) 0 ⟨rfl, ?_, ?_, rfl, rfl⟩ ?_
  · simp (maxSteps := 2000000) (disch := first | omega | assumption) only [↓mCode, ↓mOps, mAll, seval, vPtr, ite_ne, wrap_i64, boundN_int, e1_tys]
  · simp (maxSteps := 2000000) (disch := first | omega | assumption) only [↓mCode, ↓mOps, mAll, seval, vPtr, ite_ne, wrap_i64, boundN_int, e1_tys] <;> rfl
  rintro q regs h' n' ⟨rfl, r2, r8, rfl, rfl⟩ IH
  have c : ¬ (1 : Int) < 0 := by omega
  simp (maxSteps := 2000000) (disch := first | omega | assumption) only [↓mCode, ↓mOps, mAll, seval, vPtr, ite_ne, wrap_i64, boundN_int, e1_tys, e1_fns, fn96, Tryz.f96, r2, r8, c]
  exact K _ _ _ ⟨rfl, rfl⟩

theorem stable_nil {h : T O} {n : Nat} : Fn env1 65 [.base (.slice none 0 0), .int .i64 0, .func 43 [] []] h n (fun _ h' n' => h' = h ∧ n' = n) := by
  refine Fn.mk fn65 rfl fz65 (by simp) fun Q cs K => ?_
  simp (maxSteps := 2000000) (disch := first | omega | assumption) only [↓mCode, ↓mOps, mAll, seval, vPtr, ite_ne, wrap_i64, boundN_int, e1_tys, e1_fns, fn65, Tryz.f65]
  refine W_loop (fun q regs h' n' => q = 0 ∧ regs.get 0 = some (.base (.slice none 0 0)) ∧ regs.get 1 = some (.int .i64 0) ∧ regs.get 2 = some (.func 43 [] []) ∧ regs.get 6 = some (.int .i64 20) ∧ regs.get 7 = some (.int .i64 0) ∧ regs.get 8 = some (.int .i64 20) ∧ h' = h ∧ n' = n) 0 ⟨rfl, ?_, ?_, ?_, ?_, ?_, ?_, rfl, rfl⟩ ?_
  · simp (maxSteps := 2000000) (disch := first | omega | assumption) only [↓mCode, ↓mOps, mAll, seval, vPtr, ite_ne, wrap_i64, boundN_int, e1_tys]
  · simp (maxSteps := 2000000) (disch := first | omega | assumption) only [↓mCode, ↓mOps, mAll, seval, vPtr, ite_ne, wrap_i64, boundN_int, e1_tys]
  · simp (maxSteps := 2000000) (disch := first | omega | assumption) only [↓mCode, ↓mOps, mAll, seval, vPtr, ite_ne, wrap_i64, boundN_int, e1_tys]
  · simp (maxSteps := 2000000) (disch := first | omega | assumption) only [↓mCode, ↓mOps, mAll, seval, vPtr, ite_ne, wrap_i64, boundN_int, e1_tys]
  · simp (maxSteps := 2000000) (disch := first | omega | assumption) only [↓mCode, ↓mOps, mAll, seval, vPtr, ite_ne, wrap_i64, boundN_int, e1_tys]
  · simp (maxSteps := 2000000) (disch := first | omega | assumption) only [↓mCode, ↓mOps, mAll, seval, vPtr, ite_ne, wrap_i64, boundN_int, e1_tys]
  rintro q regs h' n' ⟨rfl, r0, r1, r2, r6, r7, r8, rfl, rfl⟩ IH
  have c : ¬ (20 : Int) ≤ 0 := by omega
  simp (maxSteps := 2000000) (disch := first | omega | assumption) only [↓mCode, ↓mOps, mAll, seval, vPtr, ite_ne, wrap_i64, boundN_int, e1_tys, e1_fns, fn65, Tryz.f65, r0, r1, r2, r6, r7, r8, c]
  refine insertion_nil.call rfl e1_subs ?_
  rintro v h' n' ⟨rfl, rfl⟩
  simp (maxSteps := 2000000) (disch := first | omega | assumption) only [↓mCode, ↓mOps, mAll, seval, vPtr, ite_ne, wrap_i64, boundN_int, e1_tys, e1_fns, fn65, Tryz.f65, r0, r1, r2, r6, r7, r8]
  refine W_loop (fun q regs h9 n9 => q = 0 ∧ regs.get 1 = some (.int .i64 0) ∧ regs.get 6 = some (.int .i64 20) ∧ h9 = h' ∧ n9 = n') 0 ⟨rfl, ?_, ?_, rfl, rfl⟩ ?_
  iterate 2
    · simp only [mBase, Nat.reduceEqDiff, Nat.reduceSub, reduceIte, r1, r6] <;> rfl
  rintro q regs h' n' ⟨rfl, r1, r6, rfl, rfl⟩ IH
  have c : ¬ (20 : Int) < 0 := by omega
  simp (maxSteps := 2000000) (disch := first | omega | assumption) only [↓mCode, ↓mOps, mAll, seval, vPtr, ite_ne, wrap_i64, boundN_int, e1_tys, e1_fns, fn65, Tryz.f65, r1, r6, c]
  exact K _ _ _ ⟨rfl, rfl⟩

theorem sortStable_ok {h : T O} {n0 n L : Nat} {v : V} {d : Nat → List Tm} (D : Dat h n0 n v L d) (hO : Ord ltR) (hL : L ≤ 1000) (h0 : n0 ≤ n) (hs : ∀ j, j < L → (d j).length ≤ 1000000) :
    Fn env1 42 [v, .func 43 [] []] h n (fun _ h' n' => ∃ d', Dat h' n0 n' v L d' ∧ PermD 0 L d d' ∧ Sorted ltR 0 L d' ∧ n ≤ n' ∧ ∀ j, j < n0 → h'.get j = h.get j) := by
  refine Fn.mk fn42 rfl fz42 (by simp) fun Q cs K => ?_
  have l_len : ∀ {h' : T O} {e : Nat} {k : V → Out}, lenIn h' (.slice e) v k = k (.int .i64 (L : Int)) := D.len
  rcases D with ⟨rfl, rfl⟩ | ⟨id, g, rfl, D⟩
  · simp (maxSteps := 2000000) (disch := first | omega | assumption) only [↓mCode, ↓mOps, mAll, seval, vPtr, ite_ne, wrap_i64, boundN_int, e1_tys, e1_fns, fn42, Tryz.f42, l_len]
    refine stable_nil.call rfl e1_subs ?_
    rintro v h' n' ⟨rfl, rfl⟩
    simp (maxSteps := 2000000) (disch := first | omega | assumption) only [↓mCode, ↓mOps, mAll, seval, vPtr, ite_ne, wrap_i64, boundN_int, e1_tys, e1_fns, fn42, Tryz.f42]
    exact K _ _ _ ⟨d, .inl ⟨rfl, rfl⟩, PermD.refl _ _ _, sorted_none (Nat.le_refl _), Nat.le_refl _, fun j hj => rfl⟩
  · simp (maxSteps := 2000000) (disch := first | omega | assumption) only [↓mCode, ↓mOps, mAll, seval, vPtr, ite_ne, wrap_i64, boundN_int, e1_tys, e1_fns, fn42, Tryz.f42, l_len]
    refine (stable_ok D hO hL h0 hs).call rfl e1_subs ?_
    rintro v h' n' ⟨g', d', D', p', s', hn, hk⟩
    simp (maxSteps := 2000000) (disch := first | omega | assumption) only [↓mCode, ↓mOps, mAll, seval, vPtr, ite_ne, wrap_i64, boundN_int, e1_tys, e1_fns, fn42, Tryz.f42]
    exact K _ _ _ ⟨d', .inr ⟨id, g', rfl, D'⟩, p', s', hn, hk⟩
end Go.Mir
namespace Go.Mir
open Go Go.Proofs Go.Srt
set_option maxRecDepth 4000
set_option maxHeartbeats 4000000

theorem le_of_not {x y : List Tm} (h : ltR x y = false) : cmpR y x ≤ 0 := by
  have h1 := of_decide_eq_false h
  have L := (lexL_LC cmpT_LC).s x y
  rcases Int.lt_or_le 0 (cmpR y x) with h2 | h2
  · exact absurd (L.2 h2) h1
  · exact h2
theorem not_of_le {x y : List Tm} (h : cmpR y x ≤ 0) : ltR x y = false := by
  refine decide_eq_false fun h1 => ?_
  have := ((lexL_LC cmpT_LC).s x y).1 h1
  exact absurd h (Int.not_le.2 this)
theorem ordR : Ord ltR where
  asym := fun x y h => not_of_le (Int.le_of_lt (of_decide_eq_true h))
  ntrans := fun x y z h1 h2 => not_of_le ((lexL_LC cmpT_LC).le_trans (le_of_not h1) (le_of_not h2))

theorem permD_list {α : Type} {L : Nat} {d d' : Nat → α} (h : PermD 0 L d d') : ((List.range L).map d').Perm ((List.range L).map d) := by
  obtain ⟨σ, τ, h1, h2, h3, h4⟩ := h
  have lt : ∀ i, i < L → σ i < L := fun i hi => by
    rcases Nat.lt_or_ge (σ i) L with h | h
    · exact h
    · have e := congrArg τ (h3 (σ i) (.inr h))
      rw [h1, h1] at e; omega
  have lt' : ∀ i, i < L → τ i < L := fun i hi => by
    rcases Nat.lt_or_ge (τ i) L with h | h
    · exact h
    · have e := h3 (τ i) (.inr h)
      rw [h2] at e; omega
  have e : (List.range L).map d' = ((List.range L).map σ).map d := by
    rw [List.map_map]; exact List.map_congr_left fun i _ => h4 i
  rw [e]
  refine List.Perm.map d ((List.perm_ext_iff_of_nodup ?_ List.nodup_range).2 fun a => ?_)
  · rw [List.nodup_iff_pairwise_ne, List.pairwise_map]
    exact List.Pairwise.imp (fun h e => h (by have := congrArg τ e; rwa [h1, h1] at this)) List.nodup_range
  · rw [List.mem_map]
    constructor
    · rintro ⟨i, hi, rfl⟩; exact List.mem_range.2 (lt i (List.mem_range.1 hi))
    · intro ha; exact ⟨τ a, List.mem_range.2 (lt' a (List.mem_range.1 ha)), h2 a⟩

theorem range_getD {α : Type} (x : α) (l : List α) : (List.range l.length).map (fun j => l.getD j x) = l := by
  refine List.ext_getElem (by simp) fun i h1 h2 => ?_
  rw [List.getElem_map, List.getElem_range, List.getD_eq_getElem?_getD, List.getElem?_eq_getElem h2]; rfl

theorem sorted_asc {L : Nat} {d : Nat → List Tm} (h : Sorted ltR 0 L d) : Asc cmpR ((List.range L).map d) := by
  unfold Asc
  rw [List.pairwise_map]
  refine List.pairwise_iff_getElem.2 fun i j hi hj hij => ?_
  rw [List.getElem_range, List.getElem_range]
  rw [List.length_range] at hj
  exact le_of_not (h i j (Nat.zero_le _) hij hj)

/-- rows, by the program's Sort -/
theorem sort10_ok {h : T O} {n : Nat} {va : V} {la : List (List Tm)} (ha : RowsIn h n va la) (hn : la.length ≤ 900) (hs : Small la) :
    Fn env1 22 [va] h n (fun v h' n' => ∃ out, OutAt h' n n' v out ∧ out.Perm la ∧ Asc cmpR out ∧ Gro h n h' n') := by
  refine Fn.mk fn22 rfl fz22 (by simp) fun Q cs K => ?_
  have l_len : ∀ {h' : T O} {e : Nat} {k : V → Out}, lenIn h' (.slice e) va k = k (.int .i64 (la.length : Int)) := by
    intro h' e k; have := ha.rows
    obtain ⟨g, S, _⟩ := this
    generalize la.length = L at S ⊢
    cases S with
    | nil => exact lenIn_nil
    | tail => exact lenIn_tail
    | slice => exact lenIn_slice
  simp (maxSteps := 2000000) (disch := first | omega | assumption) only [↓mCode, ↓mOps, mAll, seval, vPtr, ite_ne, wrap_i64, boundN_int, e1_tys, e1_fns, fn22, Tryz.f22, l_len]
  refine W_loopE (fun m regs h' n' => ∃ (i : Nat) (acc : V), m = la.length - i ∧ i ≤ la.length ∧ regs.get 6 = some va ∧ regs.get 7 = some (.int .i64 (la.length : Int)) ∧ regs.get 3 = some acc ∧ regs.get 8 = some (.int .i64 (i : Int)) ∧
    OutAt h' n n' acc (la.take i) ∧ Gro h n h' n')
    (fun regs h' n' => ∃ acc : V, regs.get 3 = some acc ∧ OutAt h' n n' acc la ∧ Gro h n h' n')
    _ ⟨0, _, rfl, by omega, ?_, ?_, ?_, ?_, .inl ⟨rfl, rfl⟩, Gro.refl h n⟩ ?_ ?_
  · simp (maxSteps := 2000000) (disch := first | omega | assumption) only [↓mCode, ↓mOps, mAll, seval, vPtr, ite_ne, wrap_i64, boundN_int, e1_tys]
  · simp (maxSteps := 2000000) (disch := first | omega | assumption) only [↓mCode, ↓mOps, mAll, seval, vPtr, ite_ne, wrap_i64, boundN_int, e1_tys]
  · simp (maxSteps := 2000000) (disch := first | omega | assumption) only [↓mCode, ↓mOps, mAll, seval, vPtr, ite_ne, wrap_i64, boundN_int, e1_tys]
  · simp (maxSteps := 2000000) (disch := first | omega | assumption) only [↓mCode, ↓mOps, mAll, seval, vPtr, ite_ne, wrap_i64, boundN_int, e1_tys]
  · rintro t hexit m regs h' n' ⟨i, acc, e0, hi, r6, r7, r3, r8, O1, G⟩ IH
    by_cases c1 : i < la.length
    · have c1' : (i : Int) < (la.length : Int) := by omega
      obtain ⟨ida, ofa, exa, ka, loa, ra, hvl, hloa, hida, hca, hra⟩ := ha.get c1
      have hca := hca h' (G.2 ida hida)
      simp (maxSteps := 2000000) (disch := first | omega | assumption) only [↓mCode, ↓mOps, mAll, seval, vPtr, ite_ne, wrap_i64, boundN_int, e1_tys, e1_fns, fn22, Tryz.f22, r6, r7, r3, r8, l_len, c1', hvl, hca, Nat.mul_one]
      refine (clone_ok (hra.ext G) (hs i c1)).call rfl e1_subs ?_
      rintro vr h1 n1 ⟨hr, hnew, G1⟩
      have one_r : oneV vr = true := hr.1.one
      have cell_r : cellsOf vr = [vr] := cellsOf_one one_r
      have hlen : (la.take i).length = i := by simp; omega
      have hstep : la.take (i + 1) = la.take i ++ [la.getD i []] := by
        rw [List.take_add_one, List.getElem?_eq_getElem c1, List.getD_eq_getElem?_getD, List.getElem?_eq_getElem c1]; rfl
      generalize la.take i = ls at *
      generalize la.getD i [] = x at *
      have G2 := G.trans G1
      rcases O1 with ⟨rfl, rfl⟩ | ⟨id, t, rfl, g1, g2, g3, g, hg⟩
      · simp (maxSteps := 2000000) (disch := first | omega | assumption) only [↓mCode, ↓mOps, mAll, seval, vPtr, ite_ne, wrap_i64, boundN_int, e1_tys, e1_fns, fn22, Tryz.f22, r6, r7, r3, r8, src22_s, need_true, one_r, cell_r]
        refine IH (la.length - (i + 1)) _ _ _ (by omega) ⟨i + 1, .slice (n1 + 1) 0 1 false 0 1, rfl, by omega, by simp (maxSteps := 2000000) (disch := first | omega | assumption) only [↓mCode, ↓mOps, mAll, seval, vPtr, ite_ne, wrap_i64, boundN_int, r6, hvl], by simp only [mBase, Nat.reduceEqDiff, Nat.reduceSub, reduceIte, r7], by simp only [mBase, Nat.reduceEqDiff, Nat.reduceSub, reduceIte, r3], by simp only [mBase, Nat.reduceEqDiff, Nat.reduceSub, reduceIte, r8]; rfl, ?_, ?_⟩
        · rw [hstep]
          refine .inr ⟨n1 + 1, _, rfl, T.get_put _ _ _ _ |>.trans (if_pos rfl), ?_, by omega, fun _ => vr, fun j hj => ?_⟩
          · have := G2.1; omega
          · have e : j = 0 := by simp at hj; omega
            subst e
            refine ⟨by rw [ofT_get]; rfl, hr.ext (((Gro.refl h1 n1).put _).put _), fun e => ?_⟩
            have := hr.2 _ e; omega
        · exact (G2.put _).put _
      · have g1' : h1.get id = some (.cells t ls.length 1) := (G1.2 id g3).trans g1
        have hC : ∀ {kk : List V → Out}, cellsAt h1 id 0 (ls.length * 1) kk = kk ((List.range (ls.length * 1)).map g) := Cells.all ⟨_, t, _, 1, g1', .inl rfl, by omega, fun j hj => by rw [Nat.zero_add]; exact (hg j (by omega)).1⟩ rfl rfl
        simp only [Nat.mul_one] at hC
        have hA : allOne ((List.range ls.length).map g ++ [vr]) = true := allOne_of fun v hv => by
          rcases List.mem_append.1 hv with hv | hv
          · obtain ⟨j, hj, rfl⟩ := List.mem_map.1 hv
            exact (hg j (List.mem_range.1 hj)).2.1.1.one
          · rw [List.mem_singleton.1 hv]; exact one_r
        have c2 : ¬ ls.length + 1 ≤ ls.length := by omega
        have gn : id < n1 := Nat.lt_of_lt_of_le g3 G1.1
        simp (maxSteps := 2000000) (disch := first | omega | assumption) only [↓mCode, ↓mOps, mAll, seval, vPtr, ite_ne, wrap_i64, boundN_int, e1_tys, e1_fns, fn22, Tryz.f22, r6, r7, r3, r8, src22_s, need_true, one_r, cell_r, app1_eq, app2_eq, growK_eq, hC, hA, c2, g1', Nat.mul_one]
        refine IH (la.length - (i + 1)) _ _ _ (by omega) ⟨i + 1, .slice (n1 + 1) 0 (ls.length + 1) false 0 (ls.length + 1), rfl, by omega, by simp (maxSteps := 2000000) (disch := first | omega | assumption) only [↓mCode, ↓mOps, mAll, seval, vPtr, ite_ne, wrap_i64, boundN_int, r6, hvl], by simp only [mBase, Nat.reduceEqDiff, Nat.reduceSub, reduceIte, r7], by simp only [mBase, Nat.reduceEqDiff, Nat.reduceSub, reduceIte, r3], by simp only [mBase, Nat.reduceEqDiff, Nat.reduceSub, reduceIte, r8]; rfl, ?_, ?_⟩
        · have fin : ∀ {H : T O}, H.get (n1 + 1) = some (.cells (ofT ((List.range ls.length).map g ++ [vr])) (ls.length + 1) 1) → (∀ j, j < n1 → j ≠ id → H.get j = h1.get j) →
              OutAt H n (n1 + 1 + 1) (.slice (n1 + 1) 0 (ls.length + 1) false 0 (ls.length + 1)) (ls ++ [x]) := fun {H} a b => by
            have := put_fin (h := h1) (n := n1) (n0 := n) (N := n1 + 1 + 1) (id := id) (idn := n1 + 1) (p := ls.length) (ls := ls) (x := x) (vr := vr) (g := g) (Nat.le_refl _)
              (fun j hj => ⟨(hg j hj).2.1.ext G1, (hg j hj).2.2⟩) hr (fun e => by have := hnew _ e; omega) a (by omega) (by omega) (by omega) (by omega)
              b (fun j hj => by
                rw [ofT_get, List.getElem?_append, List.length_map, List.length_range]
                by_cases c : j < ls.length
                · rw [if_pos c, if_pos c, List.getElem?_map, List.getElem?_range c]; rfl
                · have e : j = ls.length := by omega
                  rw [if_neg c, if_neg c, e, Nat.sub_self, if_pos rfl]; rfl)
            rw [List.take_length, List.drop_length] at this
            exact this
          rw [hstep]
          refine fin (by rw [T.get_put, if_pos rfl, List.length_map, List.length_range]) (fun j hj hne => ?_)
          simp only [T.get_put]
          repeat rw [if_neg (by omega)]
        · refine ⟨by have := G2.1; omega, fun j hj => ?_⟩
          have := G2.1
          simp only [T.get_put]
          repeat rw [if_neg (by omega)]
          exact G2.2 j hj
    · have c1' : ¬ (i : Int) < (la.length : Int) := by omega
      simp (maxSteps := 2000000) (disch := first | omega | assumption) only [↓mCode, ↓mOps, mAll, seval, vPtr, ite_ne, wrap_i64, boundN_int, e1_tys, e1_fns, fn22, Tryz.f22, r6, r7, r3, r8, l_len, c1']
      rw [List.take_of_length_le (by omega)] at O1
      exact hexit _ _ _ ⟨acc, by simp only [mBase, Nat.reduceEqDiff, Nat.reduceSub, reduceIte, r3], O1, G⟩
  · rintro regs h' n' ⟨acc, r3, O, G⟩
    simp (maxSteps := 2000000) (disch := first | omega | assumption) only [↓mCode, ↓mOps, mAll, seval, vPtr, ite_ne, wrap_i64, boundN_int, e1_tys, e1_fns, fn22, Tryz.f22, r3]
    refine (sortStable_ok (Dat.of O) ordR (by omega) G.1 hs).call rfl e1_subs ?_
    rintro v h8 n8 ⟨d', D', p', s', hn8, hk8⟩
    simp (maxSteps := 2000000) (disch := first | omega | assumption) only [↓mCode, ↓mOps, mAll, seval, vPtr, ite_ne, wrap_i64, boundN_int, e1_tys, e1_fns, fn22, Tryz.f22, r3]
    refine K _ _ _ ⟨_, D'.out, ?_, sorted_asc s', ⟨by have := G.1; omega, fun j hj => (hk8 j hj).trans (G.2 j hj)⟩⟩
    have := permD_list p'
    rw [range_getD] at this
    exact this
end Go.Mir
