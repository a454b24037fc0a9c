/- Walks: slices.symMergeCmpFunc over rows, the whole. -/
import Derived.Test.YtojkinikdcelbaaGreatDoorAnsO
set_option linter.unusedSimpArgs false
set_option linter.unusedVariables false
set_option linter.defProp false
namespace Go.Mir
open Go Go.Proofs Go.Srt
set_option maxRecDepth 4000
set_option maxHeartbeats 8000000

/-- one element of the second row, put into the first -/
theorem symMergeB {h : T O} {n0 n id L a m b : Nat} {g : Nat → V} {d : Nat → List Tm} (D : DatA h n0 n id L g d) (hO : Ord ltR) (h1 : a + 1 < m) (h2 : b = m + 1) (hb : b ≤ L) (hL : L ≤ 1000) (h0 : n0 ≤ n) (hs : ∀ j, j < L → (d j).length ≤ 1000000) (s1 : Sorted ltR a m d) (s2 : Sorted ltR m b d) :
    Fn env1 97 [.slice id 0 L false 0 L, .int .i64 (a : Int), .int .i64 (m : Int), .int .i64 (b : Int), .func 43 [] []] h n (fun _ h' n' => ∃ g' d', DatA h' n0 n' id L g' d' ∧ PermD a b d d' ∧ Sorted ltR a b d' ∧ n ≤ n' ∧ ∀ j, j < n0 → h'.get j = h.get j) := by
  refine Fn.mk fn97 rfl fz97 (by simp) fun Q cs K => ?_
  have e0 : ¬ (m : Int) - (a : Int) = 1 := by omega
  have e1 : (b : Int) - (m : Int) = 1 := by omega
  simp (maxSteps := 2000000) (disch := first | omega | assumption) only [↓mCode, ↓mOps, mAll, seval, vPtr, ite_ne, wrap_i64, boundN_int, e1_tys, e1_fns, fn97, Tryz.f97, e0, e1]
  refine W_loopE (fun q regs h' n' => ∃ (i j : Nat), q = j - i ∧ a ≤ i ∧ i ≤ j ∧ j ≤ m ∧ regs.get 0 = some (.slice id 0 L false 0 L) ∧ regs.get 2 = some (.int .i64 (m : Int)) ∧ regs.get 4 = some (.func 43 [] []) ∧
    regs.get 14 = some (.int .i64 (i : Int)) ∧ regs.get 15 = some (.int .i64 (j : Int)) ∧ DatA h' n0 n' id L g d ∧ (∀ k, a ≤ k → k < i → ltR (d m) (d k) = false) ∧ (∀ k, j ≤ k → k < m → ltR (d m) (d k) = true) ∧ n ≤ n' ∧ ∀ j, j < n0 → h'.get j = h.get j)
    (fun regs h' n' => ∃ (i : Nat), a ≤ i ∧ i ≤ m ∧ regs.get 0 = some (.slice id 0 L false 0 L) ∧ regs.get 2 = some (.int .i64 (m : Int)) ∧
    regs.get 14 = some (.int .i64 (i : Int)) ∧ DatA h' n0 n' id L g d ∧ (∀ k, a ≤ k → k < i → ltR (d m) (d k) = false) ∧ (∀ k, i ≤ k → k < m → ltR (d m) (d k) = true) ∧ n ≤ n' ∧ ∀ j, j < n0 → h'.get j = h.get j)
    _ ⟨a, m, rfl, Nat.le_refl _, by omega, Nat.le_refl _, ?_, ?_, ?_, ?_, ?_, D, fun k k1 k2 => absurd k2 (by omega), fun k k1 k2 => absurd k2 (by omega), Nat.le_refl _, fun j hj => rfl⟩ ?_ ?_
  · simp (maxSteps := 2000000) (disch := first | omega | assumption) only [↓mCode, ↓mOps, mAll, seval, vPtr, ite_ne, wrap_i64, boundN_int, e1_tys]
  · simp (maxSteps := 2000000) (disch := first | omega | assumption) only [↓mCode, ↓mOps, mAll, seval, vPtr, ite_ne, wrap_i64, boundN_int, e1_tys]
  · simp (maxSteps := 2000000) (disch := first | omega | assumption) only [↓mCode, ↓mOps, mAll, seval, vPtr, ite_ne, wrap_i64, boundN_int, e1_tys]
  · simp (maxSteps := 2000000) (disch := first | omega | assumption) only [↓mCode, ↓mOps, mAll, seval, vPtr, ite_ne, wrap_i64, boundN_int, e1_tys]
  · simp (maxSteps := 2000000) (disch := first | omega | assumption) only [↓mCode, ↓mOps, mAll, seval, vPtr, ite_ne, wrap_i64, boundN_int, e1_tys]
  · rintro t hexit q regs h' n' ⟨i, j, e0, hi, hij, hj, r0, r2, r4, r14, r15, D, ht, hf, hn, hk⟩ IH
    by_cases c1 : i < j
    · have c1' : (i : Int) < (j : Int) := by omega
      have e2 : (i : Int) + (j : Int) = ((i + j : Nat) : Int) := by omega
      have e3 : ∀ {k : V → Out}, convInt .u64 ((i + j : Nat) : Int) k = k (.int .u64 ((i + j : Nat) : Int)) := conv_u64 (by omega)
      have e4 : ∀ {k : V → Out}, intBin .shr .u64 ((i + j : Nat) : Int) .u64 1 k = k (.int .u64 (((i + j) / 2 : Nat) : Int)) := shr_one
      have e5 : ∀ {k : V → Out}, convInt .i64 (((i + j) / 2 : Nat) : Int) k = k (.int .i64 (((i + j) / 2 : Nat) : Int)) := convInt_i64 (by omega) (by omega)
      obtain ⟨c, hc⟩ : ∃ c, c = (i + j) / 2 := ⟨_, rfl⟩
      have hc1 : i ≤ c := by omega
      have hc2 : c < j := by omega
      rw [← hc] at e4 e5
      have hA : ∀ {k : V → Out}, cellAt h' id m k = k (g m) := D.at (by omega)
      have hB : ∀ {k : V → Out}, cellAt h' id c k = k (g c) := D.at (by omega)
      simp (maxSteps := 2000000) (disch := first | omega | assumption) only [↓mCode, ↓mOps, mAll, seval, vPtr, ite_ne, wrap_i64, boundN_int, e1_tys, e1_fns, fn97, Tryz.f97, tb169, tb3, convK_169, convK_3, r0, r2, r4, r14, r15, c1', e2, e3, e4, e5]
      refine W_draw sr97_17 ss97_17 ?_ ?_
      · exact sk97_17
      simp (maxSteps := 2000000) (disch := first | omega | assumption) only [↓mCode, ↓mOps, mAll, seval, vPtr, ite_ne, wrap_i64, boundN_int, e1_tys, e1_fns, fn97, Tryz.f97, r0, r2, r4, r14, r15, hA, hB, Nat.mul_one]
      refine (compare_ok (D.2.2.2 m (by omega)).1 (D.2.2.2 c (by omega)).1 (hs m (by omega)) (hs c (by omega))).call rfl e1_subs ?_
      rintro _ h8 n8 ⟨rfl, G⟩
      have D := D.ext G
      have hn8 : n ≤ n8 := Nat.le_trans hn G.1
      have hk8 : ∀ j, j < n0 → h8.get j = h.get j := fun j hj => (G.2 j (by omega)).trans (hk j hj)
      by_cases c3 : lexL cmpT (d m) (d c) < 0
      · simp (maxSteps := 2000000) (disch := first | omega | assumption) only [↓mCode, ↓mOps, mAll, seval, vPtr, ite_ne, wrap_i64, boundN_int, e1_tys, e1_fns, fn97, Tryz.f97, r0, r2, r4, r14, r15, c3]
        exact IH (c - i) _ _ _ (by omega) ⟨i, c, rfl, by omega, by omega, by omega, by simp only [mBase, Nat.reduceEqDiff, Nat.reduceSub, reduceIte, r0], by simp only [mBase, Nat.reduceEqDiff, Nat.reduceSub, reduceIte, r2], by simp only [mBase, Nat.reduceEqDiff, Nat.reduceSub, reduceIte, r4], by simp only [mBase, Nat.reduceEqDiff, Nat.reduceSub, reduceIte, r14], by simp only [mBase, Nat.reduceEqDiff, Nat.reduceSub, reduceIte, r15], D,
          ht, fun k k1 k2 => dn_t hO s1 (by omega) (ltR_t c3) k1 k2, hn8, hk8⟩
      · simp (maxSteps := 2000000) (disch := first | omega | assumption) only [↓mCode, ↓mOps, mAll, seval, vPtr, ite_ne, wrap_i64, boundN_int, e1_tys, e1_fns, fn97, Tryz.f97, r0, r2, r4, r14, r15, c3]
        exact IH (j - (c + 1)) _ _ _ (by omega) ⟨c + 1, j, rfl, by omega, by omega, hj, by simp only [mBase, Nat.reduceEqDiff, Nat.reduceSub, reduceIte, r0], by simp only [mBase, Nat.reduceEqDiff, Nat.reduceSub, reduceIte, r2], by simp only [mBase, Nat.reduceEqDiff, Nat.reduceSub, reduceIte, r4], by simp only [mBase, Nat.reduceEqDiff, Nat.reduceSub, reduceIte, r14]; rfl, by simp only [mBase, Nat.reduceEqDiff, Nat.reduceSub, reduceIte, r15], D,
          fun k k1 k2 => dn_f hO s1 (by omega) (ltR_f c3) k1 (by omega), hf, hn8, hk8⟩
    · have c1' : ¬ (i : Int) < (j : Int) := by omega
      have e : j = i := by omega
      subst e
      simp (maxSteps := 2000000) (disch := first | omega | assumption) only [↓mCode, ↓mOps, mAll, seval, vPtr, ite_ne, wrap_i64, boundN_int, e1_tys, e1_fns, fn97, Tryz.f97, r0, r2, r4, r14, r15, c1']
      exact hexit _ _ _ ⟨j, hi, hj, by simp only [mBase, Nat.reduceEqDiff, Nat.reduceSub, reduceIte, r0], by simp only [mBase, Nat.reduceEqDiff, Nat.reduceSub, reduceIte, r2], by simp only [mBase, Nat.reduceEqDiff, Nat.reduceSub, reduceIte, r14], D, ht, hf, hn, hk⟩
  · rintro regs h' n' ⟨i, hi, him, r0, r2, r14, D, ht, hf, hn, hk⟩
    simp (maxSteps := 2000000) (disch := first | omega | assumption) only [↓mCode, ↓mOps, mAll, seval, vPtr, ite_ne, wrap_i64, boundN_int, e1_tys, e1_fns, fn97, Tryz.f97, r0, r2, r14]
    refine W_loop (fun q regs h' n' => ∃ (k : Nat) (g' : Nat → V), q = k ∧ i ≤ k ∧ k ≤ m ∧ regs.get 0 = some (.slice id 0 L false 0 L) ∧ regs.get 17 = some (.int .i64 (k : Int)) ∧
      regs.get 14 = some (.int .i64 (i : Int)) ∧ DatA h' n0 n' id L g' (rotD k m (m + 1) d) ∧ n ≤ n' ∧ ∀ j, j < n0 → h'.get j = h.get j)
      _ ⟨m, g, rfl, him, Nat.le_refl _, ?_, ?_, ?_, by rw [walk_down0]; exact D, hn, hk⟩ ?_
    iterate 3
      · simp only [mBase, Nat.reduceEqDiff, Nat.reduceSub, reduceIte, r0, r2, r14] <;> rfl
    rintro q regs h' n' ⟨k, g', e6, hik, hkm, r0, r17, r14, D, hn, hk⟩ IH
    by_cases c1 : k > i
    · have c1' : (k : Int) > (i : Int) := by omega
      have e2 : ((k : Int) - 1).toNat = k - 1 := by omega
      have hA : ∀ {q : V → Out}, cellAt h' id k q = q (g' k) := D.at (by omega)
      have hB : ∀ {q : V → Out}, cellAt h' id (k - 1) q = q (g' (k - 1)) := D.at (by omega)
      have oA : oneV (g' k) = true := (D.2.2.2 k (by omega)).1.1.one
      have oB : oneV (g' (k - 1)) = true := (D.2.2.2 (k - 1) (by omega)).1.1.one
      have cA : cellsOf (g' k) = [g' k] := cellsOf_one oA
      have cB : cellsOf (g' (k - 1)) = [g' (k - 1)] := cellsOf_one oB
      obtain ⟨t9, g9, gt9⟩ := D.1
      simp (maxSteps := 2000000) (disch := first | omega | assumption) only [↓mCode, ↓mOps, mAll, seval, vPtr, ite_ne, wrap_i64, boundN_int, e1_tys, e1_fns, fn97, Tryz.f97, r0, r17, r14, c1']
      refine W_draw sr97_23 ss97_23 ?_ ?_
      · exact sk97_23
      simp (maxSteps := 2000000) (disch := first | omega | assumption) only [↓mCode, ↓mOps, mAll, seval, vPtr, ite_ne, wrap_i64, boundN_int, e1_tys, e1_fns, fn97, Tryz.f97, r0, r17, r14, e2, hA, hB, oA, oB, cA, cB, g9, Nat.mul_one]
      have hid := D.2.1
      refine IH (k - 1) _ _ _ (by omega) ⟨k - 1, swp g' k (k - 1), rfl, by omega, by omega, ?_, ?_, ?_, ?_, hn, fun x hx => ?_⟩
      · simp only [mBase, Nat.reduceEqDiff, Nat.reduceSub, reduceIte, r0] <;> rfl
      · have e7 : (((k - 1 : Nat)) : Int) = (k : Int) - 1 := by omega
        rw [e7]; simp (maxSteps := 2000000) (disch := first | omega | assumption) only [↓mCode, ↓mOps, mAll, seval, vPtr, ite_ne, wrap_i64, boundN_int, r17]
      · simp only [mBase, Nat.reduceEqDiff, Nat.reduceSub, reduceIte, r14] <;> rfl
      · have ew := walk_down (m := m) (k := k - 1) d (by omega)
        rw [show k - 1 + 1 = k by omega] at ew
        rw [← ew]
        refine D.swap (by omega) (by omega) (T.get_put _ _ _ _ |>.trans (if_pos rfl)) (fun x hx => ?_) (fun x hx => by rw [T.get_put, if_neg hx, T.get_put, if_neg hx])
        unfold swp
        rw [T.get_put, T.get_put]
        by_cases k1 : x = k - 1
        · rw [if_pos k1, if_neg (by omega), if_pos k1]
        · by_cases k2 : x = k
          · rw [if_neg k1, if_pos k2, if_pos k2]
          · rw [if_neg k1, if_neg k2, if_neg k2, if_neg k1]; exact gt9 x hx
      · rw [T.get_put, if_neg (by omega), T.get_put, if_neg (by omega)]; exact hk x hx
    · have c1' : ¬ (k : Int) > (i : Int) := by omega
      have e : k = i := by omega
      subst e
      simp (maxSteps := 2000000) (disch := first | omega | assumption) only [↓mCode, ↓mOps, mAll, seval, vPtr, ite_ne, wrap_i64, boundN_int, e1_tys, e1_fns, fn97, Tryz.f97, r0, r17, r14, c1']
      refine K _ _ _ ⟨g', _, D, (rotD_perm d hkm (by omega)).mono hi (by omega), ?_, hn, hk⟩
      refine rot_sorted hi hkm (by omega) (by omega) s1 s2 (fun x y x1 x2 y1 y2 => ?_) (fun x y x1 x2 y1 y2 => ?_) (fun x y x1 x2 y1 y2 => absurd y2 (by omega))
      · have e : y = m := by omega
        subst e; exact ht x x1 x2
      · have e : y = m := by omega
        subst e; exact hO.asym _ _ (hf x x1 x2)
end Go.Mir
namespace Go.Mir
open Go Go.Proofs Go.Srt
set_option maxRecDepth 4000
set_option maxHeartbeats 16000000

theorem cutR (O : Ord ltR) {a m b s mid e p : Nat} {d : Nat → List Tm} (hmid : mid = (a + b) / 2) (he : e = mid + m - s) (hp : p = mid + m - 1) (h1 : a < m) (h2 : m < b) (ha : Sorted ltR a m d) (hb : Sorted ltR m b d)
    (lo : s0 a m b ≤ s) (hi : s ≤ r0 a m b) (yes : ∀ c, s0 a m b ≤ c → c < s → ltR (d (p - c)) (d c) = false) (no : ∀ c, s ≤ c → c < r0 a m b → ltR (d (p - c)) (d c) = true) :
    a ≤ s ∧ s ≤ m ∧ m ≤ e ∧ e ≤ b ∧ s ≤ mid ∧ mid ≤ e ∧
    Sorted ltR a s (rotD s m e d) ∧ Sorted ltR s mid (rotD s m e d) ∧ Sorted ltR mid e (rotD s m e d) ∧ Sorted ltR e b (rotD s m e d) ∧
    ∀ i j, a ≤ i → i < mid → mid ≤ j → j < b → ltR (rotD s m e d j) (rotD s m e d i) = false := by
  subst hp he hmid
  exact merge_cut O (by omega) (by omega) ha hb ⟨lo, hi, yes, no⟩

theorem symMerge_ok (hO : Ord ltR) {n0 id L : Nat} (hL : L ≤ 1000) : ∀ (w : Nat) {h : T O} {n a m b : Nat} {g : Nat → V} {d : Nat → List Tm} (_ : DatA h n0 n id L g d) (_ : b - a < w) (_ : a < m) (_ : m < b) (_ : b ≤ L) (_ : n0 ≤ n) (_ : ∀ j, j < L → (d j).length ≤ 1000000) (_ : Sorted ltR a m d) (_ : Sorted ltR m b d),
    Fn env1 97 [.slice id 0 L false 0 L, .int .i64 (a : Int), .int .i64 (m : Int), .int .i64 (b : Int), .func 43 [] []] h n (fun _ h' n' => ∃ g' d', DatA h' n0 n' id L g' d' ∧ PermD a b d d' ∧ Sorted ltR a b d' ∧ n ≤ n' ∧ ∀ j, j < n0 → h'.get j = h.get j) := by
  intro w
  induction w with
  | zero => intro h n a m b g d _ hw; omega
  | succ w ih =>
  intro h n a m b g d D hw h1 h2 hb h0 hs s1 s2
  by_cases ca : m = a + 1
  · exact symMergeA D hO ca h2 hb hL h0 hs s1 s2
  by_cases cb : b = m + 1
  · exact symMergeB D hO (by omega) cb hb hL h0 hs s1 s2
  refine Fn.mk fn97 rfl fz97 (by simp) fun Q cs K => ?_
  have e0 : ¬ (m : Int) - (a : Int) = 1 := by omega
  have e1 : ¬ (b : Int) - (m : Int) = 1 := by omega
  obtain ⟨mid, hmid⟩ : ∃ x, x = (a + b) / 2 := ⟨_, rfl⟩
  obtain ⟨nn, hnn⟩ : ∃ x, x = mid + m := ⟨_, rfl⟩
  obtain ⟨p, hp⟩ : ∃ x, x = mid + m - 1 := ⟨_, rfl⟩
  have e2 : (a : Int) + (b : Int) = ((a + b : Nat) : Int) := by omega
  have e3 : ∀ {k : V → Out}, convInt .u64 ((a + b : Nat) : Int) k = k (.int .u64 ((a + b : Nat) : Int)) := conv_u64 (by omega)
  have e4 : ∀ {k : V → Out}, intBin .shr .u64 ((a + b : Nat) : Int) .u64 1 k = k (.int .u64 (((a + b) / 2 : Nat) : Int)) := shr_one
  have e5 : ∀ {k : V → Out}, convInt .i64 (((a + b) / 2 : Nat) : Int) k = k (.int .i64 (((a + b) / 2 : Nat) : Int)) := convInt_i64 (by omega) (by omega)
  rw [← hmid] at e4 e5
  have e6 : (mid : Int) + (m : Int) = (nn : Int) := by omega
  have e7 : (nn : Int) - 1 = (p : Int) := by omega
  have e8 : (if mid < m then ((nn : Int) - (b : Int)) else (a : Int)) = ((s0 a m b : Nat) : Int) := by unfold s0; split <;> split <;> omega
  have e9 : (if mid < m then (mid : Int) else (m : Int)) = ((r0 a m b : Nat) : Int) := by unfold r0; split <;> split <;> omega
  have hsr : s0 a m b ≤ r0 a m b := s0_le h1 h2
  by_cases c0 : mid < m
  all_goals
    first | (have c0' : (m : Int) > (mid : Int) := by omega) | (have c0' : ¬ (m : Int) > (mid : Int) := by omega)
    first | rw [if_pos c0] at e8 e9 | rw [if_neg c0] at e8 e9
    simp (maxSteps := 2000000) (disch := first | omega | assumption) only [↓mCode, ↓mOps, mAll, seval, vPtr, ite_ne, wrap_i64, boundN_int, e1_tys, e1_fns, fn97, Tryz.f97, tb169, tb3, convK_169, convK_3, e0, e1, e2, e3, e4, e5, e6, e7, c0']
    refine W_loopE (fun q regs h' n' => ∃ (i j : Nat), q = j - i ∧ s0 a m b ≤ i ∧ i ≤ j ∧ j ≤ r0 a m b ∧ regs.get 0 = some (.slice id 0 L false 0 L) ∧ regs.get 1 = some (.int .i64 (a : Int)) ∧ regs.get 2 = some (.int .i64 (m : Int)) ∧ regs.get 3 = some (.int .i64 (b : Int)) ∧ regs.get 4 = some (.func 43 [] []) ∧
      regs.get 18 = some (.int .i64 (mid : Int)) ∧ regs.get 19 = some (.int .i64 (nn : Int)) ∧ regs.get 22 = some (.int .i64 (p : Int)) ∧
      regs.get 20 = some (.int .i64 (i : Int)) ∧ regs.get 21 = some (.int .i64 (j : Int)) ∧ DatA h' n0 n' id L g d ∧ (∀ k, s0 a m b ≤ k → k < i → ltR (d (p - k)) (d k) = false) ∧ (∀ k, j ≤ k → k < r0 a m b → ltR (d (p - k)) (d k) = true) ∧ n ≤ n' ∧ ∀ j, j < n0 → h'.get j = h.get j)
      (fun regs h' n' => ∃ (s : Nat), s0 a m b ≤ s ∧ s ≤ r0 a m b ∧ regs.get 0 = some (.slice id 0 L false 0 L) ∧ regs.get 1 = some (.int .i64 (a : Int)) ∧ regs.get 2 = some (.int .i64 (m : Int)) ∧ regs.get 3 = some (.int .i64 (b : Int)) ∧ regs.get 4 = some (.func 43 [] []) ∧
      regs.get 18 = some (.int .i64 (mid : Int)) ∧ regs.get 19 = some (.int .i64 (nn : Int)) ∧
      regs.get 20 = some (.int .i64 (s : Int)) ∧ DatA h' n0 n' id L g d ∧ (∀ k, s0 a m b ≤ k → k < s → ltR (d (p - k)) (d k) = false) ∧ (∀ k, s ≤ k → k < r0 a m b → ltR (d (p - k)) (d k) = true) ∧ n ≤ n' ∧ ∀ j, j < n0 → h'.get j = h.get j)
      _ ⟨s0 a m b, r0 a m b, rfl, Nat.le_refl _, hsr, Nat.le_refl _, ?_, ?_, ?_, ?_, ?_, ?_, ?_, ?_, ?_, ?_, D, fun k k1 k2 => absurd k2 (by omega), fun k k1 k2 => absurd k2 (by omega), Nat.le_refl _, fun j hj => rfl⟩ ?_ ?_
    · simp (maxSteps := 2000000) (disch := first | omega | assumption) only [↓mCode, ↓mOps, mAll, seval, vPtr, ite_ne, wrap_i64, boundN_int, e1_tys]
    · simp (maxSteps := 2000000) (disch := first | omega | assumption) only [↓mCode, ↓mOps, mAll, seval, vPtr, ite_ne, wrap_i64, boundN_int, e1_tys]
    · simp (maxSteps := 2000000) (disch := first | omega | assumption) only [↓mCode, ↓mOps, mAll, seval, vPtr, ite_ne, wrap_i64, boundN_int, e1_tys]
    · simp (maxSteps := 2000000) (disch := first | omega | assumption) only [↓mCode, ↓mOps, mAll, seval, vPtr, ite_ne, wrap_i64, boundN_int, e1_tys]
    · simp (maxSteps := 2000000) (disch := first | omega | assumption) only [↓mCode, ↓mOps, mAll, seval, vPtr, ite_ne, wrap_i64, boundN_int, e1_tys]
    · simp (maxSteps := 2000000) (disch := first | omega | assumption) only [↓mCode, ↓mOps, mAll, seval, vPtr, ite_ne, wrap_i64, boundN_int, e1_tys]
    · simp (maxSteps := 2000000) (disch := first | omega | assumption) only [↓mCode, ↓mOps, mAll, seval, vPtr, ite_ne, wrap_i64, boundN_int, e1_tys]
    · simp (maxSteps := 2000000) (disch := first | omega | assumption) only [↓mCode, ↓mOps, mAll, seval, vPtr, ite_ne, wrap_i64, boundN_int, e1_tys]
    · rw [← e8]; simp (maxSteps := 2000000) (disch := first | omega | assumption) only [↓mCode, ↓mOps, mAll, seval, vPtr, ite_ne, wrap_i64, boundN_int, e1_tys]
    · rw [← e9]; simp (maxSteps := 2000000) (disch := first | omega | assumption) only [↓mCode, ↓mOps, mAll, seval, vPtr, ite_ne, wrap_i64, boundN_int, e1_tys]
    · rintro t hexit q regs h' n' ⟨i, j, e10, hi, hij, hj, r0', r1, r2, r3, r4, r18, r19, r22, r20, r21, D, ht, hf, hn, hk⟩ IH
      by_cases c1 : i < j
      · have c1' : (i : Int) < (j : Int) := by omega
        have x0 := r0_le h1 h2
        have x2 : (i : Int) + (j : Int) = ((i + j : Nat) : Int) := by omega
        have x3 : ∀ {k : V → Out}, convInt .u64 ((i + j : Nat) : Int) k = k (.int .u64 ((i + j : Nat) : Int)) := conv_u64 (by omega)
        have x4 : ∀ {k : V → Out}, intBin .shr .u64 ((i + j : Nat) : Int) .u64 1 k = k (.int .u64 (((i + j) / 2 : Nat) : Int)) := shr_one
        have x5 : ∀ {k : V → Out}, convInt .i64 (((i + j) / 2 : Nat) : Int) k = k (.int .i64 (((i + j) / 2 : Nat) : Int)) := convInt_i64 (by omega) (by omega)
        obtain ⟨c, hc⟩ : ∃ c, c = (i + j) / 2 := ⟨_, rfl⟩
        have hc1 : i ≤ c := by omega
        have hc2 : c < j := by omega
        rw [← hc] at x4 x5
        obtain ⟨y1, y2, y3, y4, y5⟩ := place (p := p) (c := c) h1 h2 (by rw [hp, hmid]) (by omega) (by omega)
        have x6 : ((p : Int) - (c : Int)).toNat = p - c := by omega
        have hA : ∀ {k : V → Out}, cellAt h' id (p - c) k = k (g (p - c)) := D.at (by omega)
        have hB : ∀ {k : V → Out}, cellAt h' id c k = k (g c) := D.at (by omega)
        simp (maxSteps := 2000000) (disch := first | omega | assumption) only [↓mCode, ↓mOps, mAll, seval, vPtr, ite_ne, wrap_i64, boundN_int, e1_tys, e1_fns, fn97, Tryz.f97, tb169, tb3, convK_169, convK_3, r0', r4, r22, r20, r21, c1', x2, x3, x4, x5]
        refine W_draw sr97_35 ss97_35 ?_ ?_
        · exact sk97_35
        simp (maxSteps := 2000000) (disch := first | omega | assumption) only [↓mCode, ↓mOps, mAll, seval, vPtr, ite_ne, wrap_i64, boundN_int, e1_tys, e1_fns, fn97, Tryz.f97, r0', r4, r22, r20, r21, x6, hA, hB, Nat.mul_one]
        refine (compare_ok (D.2.2.2 (p - c) (by omega)).1 (D.2.2.2 c (by omega)).1 (hs (p - c) (by omega)) (hs c (by omega))).call rfl e1_subs ?_
        rintro _ h8 n8 ⟨rfl, G⟩
        have D := D.ext G
        have hn8 : n ≤ n8 := Nat.le_trans hn G.1
        have hk8 : ∀ j, j < n0 → h8.get j = h.get j := fun j hj => (G.2 j (by omega)).trans (hk j hj)
        by_cases c3 : lexL cmpT (d (p - c)) (d c) < 0
        · simp (maxSteps := 2000000) (disch := first | omega | assumption) only [↓mCode, ↓mOps, mAll, seval, vPtr, ite_ne, wrap_i64, boundN_int, e1_tys, e1_fns, fn97, Tryz.f97, r0', r1, r2, r3, r4, r18, r19, r22, r20, r21, c3]
          exact IH (c - i) _ _ _ (by omega) ⟨i, c, rfl, by omega, by omega, by omega, by simp (maxSteps := 2000000) (disch := first | omega | assumption) only [↓mCode, ↓mOps, mAll, seval, vPtr, ite_ne, wrap_i64, boundN_int, r0'], by simp only [mBase, Nat.reduceEqDiff, Nat.reduceSub, reduceIte, r1], by simp only [mBase, Nat.reduceEqDiff, Nat.reduceSub, reduceIte, r2], by simp only [mBase, Nat.reduceEqDiff, Nat.reduceSub, reduceIte, r3], by simp only [mBase, Nat.reduceEqDiff, Nat.reduceSub, reduceIte, r4], by simp only [mBase, Nat.reduceEqDiff, Nat.reduceSub, reduceIte, r18], by simp only [mBase, Nat.reduceEqDiff, Nat.reduceSub, reduceIte, r19], by simp only [mBase, Nat.reduceEqDiff, Nat.reduceSub, reduceIte, r22], by simp only [mBase, Nat.reduceEqDiff, Nat.reduceSub, reduceIte, r20], by simp only [mBase, Nat.reduceEqDiff, Nat.reduceSub, reduceIte, r21], D,
            ht, fun k k1 k2 => no_step hO h1 h2 (by rw [hp, hmid]) s1 s2 (by omega) (by omega) (ltR_t c3) k1 k2, hn8, hk8⟩
        · simp (maxSteps := 2000000) (disch := first | omega | assumption) only [↓mCode, ↓mOps, mAll, seval, vPtr, ite_ne, wrap_i64, boundN_int, e1_tys, e1_fns, fn97, Tryz.f97, r0', r1, r2, r3, r4, r18, r19, r22, r20, r21, c3]
          exact IH (j - (c + 1)) _ _ _ (by omega) ⟨c + 1, j, rfl, by omega, by omega, hj, by simp (maxSteps := 2000000) (disch := first | omega | assumption) only [↓mCode, ↓mOps, mAll, seval, vPtr, ite_ne, wrap_i64, boundN_int, r0'], by simp only [mBase, Nat.reduceEqDiff, Nat.reduceSub, reduceIte, r1], by simp only [mBase, Nat.reduceEqDiff, Nat.reduceSub, reduceIte, r2], by simp only [mBase, Nat.reduceEqDiff, Nat.reduceSub, reduceIte, r3], by simp only [mBase, Nat.reduceEqDiff, Nat.reduceSub, reduceIte, r4], by simp only [mBase, Nat.reduceEqDiff, Nat.reduceSub, reduceIte, r18], by simp only [mBase, Nat.reduceEqDiff, Nat.reduceSub, reduceIte, r19], by simp only [mBase, Nat.reduceEqDiff, Nat.reduceSub, reduceIte, r22], by simp only [mBase, Nat.reduceEqDiff, Nat.reduceSub, reduceIte, r20]; rfl, by simp only [mBase, Nat.reduceEqDiff, Nat.reduceSub, reduceIte, r21], D,
            fun k k1 k2 => yes_step hO h1 h2 (by rw [hp, hmid]) s1 s2 (by omega) (by omega) (ltR_f c3) k1 (by omega), hf, hn8, hk8⟩
      · have c1' : ¬ (i : Int) < (j : Int) := by omega
        have e : j = i := by omega
        subst e
        simp (maxSteps := 2000000) (disch := first | omega | assumption) only [↓mCode, ↓mOps, mAll, seval, vPtr, ite_ne, wrap_i64, boundN_int, e1_tys, e1_fns, fn97, Tryz.f97, r0', r1, r2, r3, r4, r18, r19, r20, r21, c1']
        exact hexit _ _ _ ⟨j, hi, hj, by simp (maxSteps := 2000000) (disch := first | omega | assumption) only [↓mCode, ↓mOps, mAll, seval, vPtr, ite_ne, wrap_i64, boundN_int, r0'], by simp only [mBase, Nat.reduceEqDiff, Nat.reduceSub, reduceIte, r1], by simp only [mBase, Nat.reduceEqDiff, Nat.reduceSub, reduceIte, r2], by simp only [mBase, Nat.reduceEqDiff, Nat.reduceSub, reduceIte, r3], by simp only [mBase, Nat.reduceEqDiff, Nat.reduceSub, reduceIte, r4], by simp only [mBase, Nat.reduceEqDiff, Nat.reduceSub, reduceIte, r18], by simp only [mBase, Nat.reduceEqDiff, Nat.reduceSub, reduceIte, r19], by simp only [mBase, Nat.reduceEqDiff, Nat.reduceSub, reduceIte, r20], D, ht, hf, hn, hk⟩
    · rintro regs h' n' ⟨s, hlo, hhi, r0', r1, r2, r3, r4, r18, r19, r20, D, ht, hf, hn, hk⟩
      obtain ⟨e, he⟩ : ∃ x, x = mid + m - s := ⟨_, rfl⟩
      obtain ⟨q1, q2, q3, q4, q5, q6, sA, sB, sC, sD, hc⟩ := cutR hO hmid he hp h1 h2 s1 s2 hlo hhi ht hf
      have p0 : PermD a b d (rotD s m e d) := (rotD_perm d q2 q3).mono q1 q4
      have y1 : (nn : Int) - (s : Int) = (e : Int) := by omega
      by_cases c5 : s < m
      · by_cases c6 : m < e
        · have c5p : ((s : Int) < (m : Int)) = True := eq_true (by omega)
          have c6p : ((m : Int) < (e : Int)) = True := eq_true (by omega)
          simp (maxSteps := 2000000) (disch := first | omega | assumption) only [↓mCode, ↓mOps, mAll, seval, vPtr, ite_ne, wrap_i64, boundN_int, e1_tys, e1_fns, fn97, Tryz.f97, r0', r1, r2, r3, r4, r18, r19, r20, y1, c5p, c6p]
          refine (rotate_ok (f := .func 43 [] []) D c5 c6 (by omega) hL (by omega)).call rfl e1_subs ?_
          rintro v h8 n8 ⟨g8, D8, hn8, hk8⟩
          have hk8' : ∀ j, j < n0 → h8.get j = h.get j := fun j hj => (hk8 j hj).trans (hk j hj)
          generalize rotD s m e d = d1 at *
          by_cases c7 : a < s
          · by_cases c8 : s < mid
            · have c7p : ((a : Int) < (s : Int)) = True := eq_true (by omega)
              have c8p : ((s : Int) < (mid : Int)) = True := eq_true (by omega)
              simp (maxSteps := 2000000) (disch := first | omega | assumption) only [↓mCode, ↓mOps, mAll, seval, vPtr, ite_ne, wrap_i64, boundN_int, e1_tys, e1_fns, fn97, Tryz.f97, r0', r1, r2, r3, r4, r18, r19, r20, y1, c5p, c6p, c7p, c8p]
              refine (ih D8 (by omega) c7 c8 (by omega) (by omega) (p0.all' (p := fun x => x.length ≤ 1000000) hs) sA sB).call rfl e1_subs ?_
              rintro v9 h9 n9 ⟨g9, d9, D9, p1, s9, hn9, hk9⟩
              have hk9' : ∀ j, j < n0 → h9.get j = h.get j := fun j hj => (hk9 j hj).trans (hk8' j hj)
              have pp : PermD a b d d9 := p0.trans (p1.mono (Nat.le_refl _) (by omega))
              have tC : Sorted ltR mid e d9 := sC.congr fun i i1 i2 => p1.out (.inr i1)
              have tD : Sorted ltR e b d9 := sD.congr fun i i1 i2 => p1.out (.inr (by omega))
              by_cases c9 : mid < e
              · by_cases c10 : e < b
                · have c9p : ((mid : Int) < (e : Int)) = True := eq_true (by omega)
                  have c10p : ((e : Int) < (b : Int)) = True := eq_true (by omega)
                  simp (maxSteps := 2000000) (disch := first | omega | assumption) only [↓mCode, ↓mOps, mAll, seval, vPtr, ite_ne, wrap_i64, boundN_int, e1_tys, e1_fns, fn97, Tryz.f97, r0', r1, r2, r3, r4, r18, r19, r20, y1, c5p, c6p, c7p, c8p, c9p, c10p]
                  refine (ih D9 (by omega) c9 c10 (by omega) (by omega) (pp.all' (p := fun x => x.length ≤ 1000000) hs) tC tD).call rfl e1_subs ?_
                  rintro vA hA nA ⟨gA, dA, DA, pA, sA', hnA, hkA⟩
                  simp (maxSteps := 2000000) (disch := first | omega | assumption) only [↓mCode, ↓mOps, mAll, seval, vPtr, ite_ne, wrap_i64, boundN_int, e1_tys, e1_fns, fn97, Tryz.f97, r0', r1, r2, r3, r4, r18, r19, r20, y1, c5p, c6p, c7p, c8p, c9p, c10p]
                  exact K _ _ _ ⟨gA, dA, DA, pp.trans (pA.mono (by omega) (Nat.le_refl _)), merge_ok (by omega) (by omega) hc p1 s9 pA sA', by omega, fun j hj => (hkA j hj).trans (hk9' j hj)⟩
                · have c9p : ((mid : Int) < (e : Int)) = True := eq_true (by omega)
                  have c10p : ((e : Int) < (b : Int)) = False := eq_false (by omega)
                  have ee : e = b := by omega
                  have sA' : Sorted ltR mid b d9 := ee ▸ tC
                  simp (maxSteps := 2000000) (disch := first | omega | assumption) only [↓mCode, ↓mOps, mAll, seval, vPtr, ite_ne, wrap_i64, boundN_int, e1_tys, e1_fns, fn97, Tryz.f97, r0', r1, r2, r3, r4, r18, r19, r20, y1, c5p, c6p, c7p, c8p, c9p, c10p]
                  exact K _ _ _ ⟨g9, d9, D9, pp, merge_ok (by omega) (by omega) hc p1 s9 (PermD.refl _ _ _) sA', by omega, hk9'⟩
              · have c9p : ((mid : Int) < (e : Int)) = False := eq_false (by omega)
                have c10p := c9p
                have ee : mid = e := by omega
                have sA' : Sorted ltR mid b d9 := ee ▸ tD
                simp (maxSteps := 2000000) (disch := first | omega | assumption) only [↓mCode, ↓mOps, mAll, seval, vPtr, ite_ne, wrap_i64, boundN_int, e1_tys, e1_fns, fn97, Tryz.f97, r0', r1, r2, r3, r4, r18, r19, r20, y1, c5p, c6p, c7p, c8p, c9p, c10p]
                exact K _ _ _ ⟨g9, d9, D9, pp, merge_ok (by omega) (by omega) hc p1 s9 (PermD.refl _ _ _) sA', by omega, hk9'⟩
            · have c7p : ((a : Int) < (s : Int)) = True := eq_true (by omega)
              have c8p : ((s : Int) < (mid : Int)) = False := eq_false (by omega)
              have ee : s = mid := by omega
              have s9 : Sorted ltR a mid d1 := ee ▸ sA
              have D9 := D8
              have p1 : PermD a mid d1 d1 := PermD.refl _ _ _
              have hn9 : n8 ≤ n8 := Nat.le_refl _
              have hk9' := hk8'
              have pp : PermD a b d d1 := p0.trans (p1.mono (Nat.le_refl _) (by omega))
              have tC : Sorted ltR mid e d1 := sC.congr fun i i1 i2 => p1.out (.inr i1)
              have tD : Sorted ltR e b d1 := sD.congr fun i i1 i2 => p1.out (.inr (by omega))
              by_cases c9 : mid < e
              · by_cases c10 : e < b
                · have c9p : ((mid : Int) < (e : Int)) = True := eq_true (by omega)
                  have c10p : ((e : Int) < (b : Int)) = True := eq_true (by omega)
                  simp (maxSteps := 2000000) (disch := first | omega | assumption) only [↓mCode, ↓mOps, mAll, seval, vPtr, ite_ne, wrap_i64, boundN_int, e1_tys, e1_fns, fn97, Tryz.f97, r0', r1, r2, r3, r4, r18, r19, r20, y1, c5p, c6p, c7p, c8p, c9p, c10p]
                  refine (ih D9 (by omega) c9 c10 (by omega) (by omega) (pp.all' (p := fun x => x.length ≤ 1000000) hs) tC tD).call rfl e1_subs ?_
                  rintro vA hA nA ⟨gA, dA, DA, pA, sA', hnA, hkA⟩
                  simp (maxSteps := 2000000) (disch := first | omega | assumption) only [↓mCode, ↓mOps, mAll, seval, vPtr, ite_ne, wrap_i64, boundN_int, e1_tys, e1_fns, fn97, Tryz.f97, r0', r1, r2, r3, r4, r18, r19, r20, y1, c5p, c6p, c7p, c8p, c9p, c10p]
                  exact K _ _ _ ⟨gA, dA, DA, pp.trans (pA.mono (by omega) (Nat.le_refl _)), merge_ok (by omega) (by omega) hc p1 s9 pA sA', by omega, fun j hj => (hkA j hj).trans (hk9' j hj)⟩
                · have c9p : ((mid : Int) < (e : Int)) = True := eq_true (by omega)
                  have c10p : ((e : Int) < (b : Int)) = False := eq_false (by omega)
                  have ee : e = b := by omega
                  have sA' : Sorted ltR mid b d1 := ee ▸ tC
                  simp (maxSteps := 2000000) (disch := first | omega | assumption) only [↓mCode, ↓mOps, mAll, seval, vPtr, ite_ne, wrap_i64, boundN_int, e1_tys, e1_fns, fn97, Tryz.f97, r0', r1, r2, r3, r4, r18, r19, r20, y1, c5p, c6p, c7p, c8p, c9p, c10p]
                  exact K _ _ _ ⟨g8, d1, D9, pp, merge_ok (by omega) (by omega) hc p1 s9 (PermD.refl _ _ _) sA', by omega, hk9'⟩
              · have c9p : ((mid : Int) < (e : Int)) = False := eq_false (by omega)
                have c10p := c9p
                have ee : mid = e := by omega
                have sA' : Sorted ltR mid b d1 := ee ▸ tD
                simp (maxSteps := 2000000) (disch := first | omega | assumption) only [↓mCode, ↓mOps, mAll, seval, vPtr, ite_ne, wrap_i64, boundN_int, e1_tys, e1_fns, fn97, Tryz.f97, r0', r1, r2, r3, r4, r18, r19, r20, y1, c5p, c6p, c7p, c8p, c9p, c10p]
                exact K _ _ _ ⟨g8, d1, D9, pp, merge_ok (by omega) (by omega) hc p1 s9 (PermD.refl _ _ _) sA', by omega, hk9'⟩
          · have c7p : ((a : Int) < (s : Int)) = False := eq_false (by omega)
            have c8p := c7p
            have ee : s = a := by omega
            have s9 : Sorted ltR a mid d1 := ee ▸ sB
            have D9 := D8
            have p1 : PermD a mid d1 d1 := PermD.refl _ _ _
            have hn9 : n8 ≤ n8 := Nat.le_refl _
            have hk9' := hk8'
            have pp : PermD a b d d1 := p0.trans (p1.mono (Nat.le_refl _) (by omega))
            have tC : Sorted ltR mid e d1 := sC.congr fun i i1 i2 => p1.out (.inr i1)
            have tD : Sorted ltR e b d1 := sD.congr fun i i1 i2 => p1.out (.inr (by omega))
            by_cases c9 : mid < e
            · by_cases c10 : e < b
              · have c9p : ((mid : Int) < (e : Int)) = True := eq_true (by omega)
                have c10p : ((e : Int) < (b : Int)) = True := eq_true (by omega)
                simp (maxSteps := 2000000) (disch := first | omega | assumption) only [↓mCode, ↓mOps, mAll, seval, vPtr, ite_ne, wrap_i64, boundN_int, e1_tys, e1_fns, fn97, Tryz.f97, r0', r1, r2, r3, r4, r18, r19, r20, y1, c5p, c6p, c7p, c8p, c9p, c10p]
                refine (ih D9 (by omega) c9 c10 (by omega) (by omega) (pp.all' (p := fun x => x.length ≤ 1000000) hs) tC tD).call rfl e1_subs ?_
                rintro vA hA nA ⟨gA, dA, DA, pA, sA', hnA, hkA⟩
                simp (maxSteps := 2000000) (disch := first | omega | assumption) only [↓mCode, ↓mOps, mAll, seval, vPtr, ite_ne, wrap_i64, boundN_int, e1_tys, e1_fns, fn97, Tryz.f97, r0', r1, r2, r3, r4, r18, r19, r20, y1, c5p, c6p, c7p, c8p, c9p, c10p]
                exact K _ _ _ ⟨gA, dA, DA, pp.trans (pA.mono (by omega) (Nat.le_refl _)), merge_ok (by omega) (by omega) hc p1 s9 pA sA', by omega, fun j hj => (hkA j hj).trans (hk9' j hj)⟩
              · have c9p : ((mid : Int) < (e : Int)) = True := eq_true (by omega)
                have c10p : ((e : Int) < (b : Int)) = False := eq_false (by omega)
                have ee : e = b := by omega
                have sA' : Sorted ltR mid b d1 := ee ▸ tC
                simp (maxSteps := 2000000) (disch := first | omega | assumption) only [↓mCode, ↓mOps, mAll, seval, vPtr, ite_ne, wrap_i64, boundN_int, e1_tys, e1_fns, fn97, Tryz.f97, r0', r1, r2, r3, r4, r18, r19, r20, y1, c5p, c6p, c7p, c8p, c9p, c10p]
                exact K _ _ _ ⟨g8, d1, D9, pp, merge_ok (by omega) (by omega) hc p1 s9 (PermD.refl _ _ _) sA', by omega, hk9'⟩
            · have c9p : ((mid : Int) < (e : Int)) = False := eq_false (by omega)
              have c10p := c9p
              have ee : mid = e := by omega
              have sA' : Sorted ltR mid b d1 := ee ▸ tD
              simp (maxSteps := 2000000) (disch := first | omega | assumption) only [↓mCode, ↓mOps, mAll, seval, vPtr, ite_ne, wrap_i64, boundN_int, e1_tys, e1_fns, fn97, Tryz.f97, r0', r1, r2, r3, r4, r18, r19, r20, y1, c5p, c6p, c7p, c8p, c9p, c10p]
              exact K _ _ _ ⟨g8, d1, D9, pp, merge_ok (by omega) (by omega) hc p1 s9 (PermD.refl _ _ _) sA', by omega, hk9'⟩
        · have c5p : ((s : Int) < (m : Int)) = True := eq_true (by omega)
          have c6p : ((m : Int) < (e : Int)) = False := eq_false (by omega)
          have ee : m = e := by omega
          have D8 : DatA h' n0 n' id L g (rotD s m e d) := by rw [← ee, rotD_right]; exact D
          have hn8 : n' ≤ n' := Nat.le_refl _
          have hk8' := hk
          generalize rotD s m e d = d1 at *
          by_cases c7 : a < s
          · by_cases c8 : s < mid
            · have c7p : ((a : Int) < (s : Int)) = True := eq_true (by omega)
              have c8p : ((s : Int) < (mid : Int)) = True := eq_true (by omega)
              simp (maxSteps := 2000000) (disch := first | omega | assumption) only [↓mCode, ↓mOps, mAll, seval, vPtr, ite_ne, wrap_i64, boundN_int, e1_tys, e1_fns, fn97, Tryz.f97, r0', r1, r2, r3, r4, r18, r19, r20, y1, c5p, c6p, c7p, c8p]
              refine (ih D8 (by omega) c7 c8 (by omega) (by omega) (p0.all' (p := fun x => x.length ≤ 1000000) hs) sA sB).call rfl e1_subs ?_
              rintro v9 h9 n9 ⟨g9, d9, D9, p1, s9, hn9, hk9⟩
              have hk9' : ∀ j, j < n0 → h9.get j = h.get j := fun j hj => (hk9 j hj).trans (hk8' j hj)
              have pp : PermD a b d d9 := p0.trans (p1.mono (Nat.le_refl _) (by omega))
              have tC : Sorted ltR mid e d9 := sC.congr fun i i1 i2 => p1.out (.inr i1)
              have tD : Sorted ltR e b d9 := sD.congr fun i i1 i2 => p1.out (.inr (by omega))
              by_cases c9 : mid < e
              · by_cases c10 : e < b
                · have c9p : ((mid : Int) < (e : Int)) = True := eq_true (by omega)
                  have c10p : ((e : Int) < (b : Int)) = True := eq_true (by omega)
                  simp (maxSteps := 2000000) (disch := first | omega | assumption) only [↓mCode, ↓mOps, mAll, seval, vPtr, ite_ne, wrap_i64, boundN_int, e1_tys, e1_fns, fn97, Tryz.f97, r0', r1, r2, r3, r4, r18, r19, r20, y1, c5p, c6p, c7p, c8p, c9p, c10p]
                  refine (ih D9 (by omega) c9 c10 (by omega) (by omega) (pp.all' (p := fun x => x.length ≤ 1000000) hs) tC tD).call rfl e1_subs ?_
                  rintro vA hA nA ⟨gA, dA, DA, pA, sA', hnA, hkA⟩
                  simp (maxSteps := 2000000) (disch := first | omega | assumption) only [↓mCode, ↓mOps, mAll, seval, vPtr, ite_ne, wrap_i64, boundN_int, e1_tys, e1_fns, fn97, Tryz.f97, r0', r1, r2, r3, r4, r18, r19, r20, y1, c5p, c6p, c7p, c8p, c9p, c10p]
                  exact K _ _ _ ⟨gA, dA, DA, pp.trans (pA.mono (by omega) (Nat.le_refl _)), merge_ok (by omega) (by omega) hc p1 s9 pA sA', by omega, fun j hj => (hkA j hj).trans (hk9' j hj)⟩
                · have c9p : ((mid : Int) < (e : Int)) = True := eq_true (by omega)
                  have c10p : ((e : Int) < (b : Int)) = False := eq_false (by omega)
                  have ee : e = b := by omega
                  have sA' : Sorted ltR mid b d9 := ee ▸ tC
                  simp (maxSteps := 2000000) (disch := first | omega | assumption) only [↓mCode, ↓mOps, mAll, seval, vPtr, ite_ne, wrap_i64, boundN_int, e1_tys, e1_fns, fn97, Tryz.f97, r0', r1, r2, r3, r4, r18, r19, r20, y1, c5p, c6p, c7p, c8p, c9p, c10p]
                  exact K _ _ _ ⟨g9, d9, D9, pp, merge_ok (by omega) (by omega) hc p1 s9 (PermD.refl _ _ _) sA', by omega, hk9'⟩
              · have c9p : ((mid : Int) < (e : Int)) = False := eq_false (by omega)
                have c10p := c9p
                have ee : mid = e := by omega
                have sA' : Sorted ltR mid b d9 := ee ▸ tD
                simp (maxSteps := 2000000) (disch := first | omega | assumption) only [↓mCode, ↓mOps, mAll, seval, vPtr, ite_ne, wrap_i64, boundN_int, e1_tys, e1_fns, fn97, Tryz.f97, r0', r1, r2, r3, r4, r18, r19, r20, y1, c5p, c6p, c7p, c8p, c9p, c10p]
                exact K _ _ _ ⟨g9, d9, D9, pp, merge_ok (by omega) (by omega) hc p1 s9 (PermD.refl _ _ _) sA', by omega, hk9'⟩
            · have c7p : ((a : Int) < (s : Int)) = True := eq_true (by omega)
              have c8p : ((s : Int) < (mid : Int)) = False := eq_false (by omega)
              have ee : s = mid := by omega
              have s9 : Sorted ltR a mid d1 := ee ▸ sA
              have D9 := D8
              have p1 : PermD a mid d1 d1 := PermD.refl _ _ _
              have hn9 : n' ≤ n' := Nat.le_refl _
              have hk9' := hk8'
              have pp : PermD a b d d1 := p0.trans (p1.mono (Nat.le_refl _) (by omega))
              have tC : Sorted ltR mid e d1 := sC.congr fun i i1 i2 => p1.out (.inr i1)
              have tD : Sorted ltR e b d1 := sD.congr fun i i1 i2 => p1.out (.inr (by omega))
              by_cases c9 : mid < e
              · by_cases c10 : e < b
                · have c9p : ((mid : Int) < (e : Int)) = True := eq_true (by omega)
                  have c10p : ((e : Int) < (b : Int)) = True := eq_true (by omega)
                  simp (maxSteps := 2000000) (disch := first | omega | assumption) only [↓mCode, ↓mOps, mAll, seval, vPtr, ite_ne, wrap_i64, boundN_int, e1_tys, e1_fns, fn97, Tryz.f97, r0', r1, r2, r3, r4, r18, r19, r20, y1, c5p, c6p, c7p, c8p, c9p, c10p]
                  refine (ih D9 (by omega) c9 c10 (by omega) (by omega) (pp.all' (p := fun x => x.length ≤ 1000000) hs) tC tD).call rfl e1_subs ?_
                  rintro vA hA nA ⟨gA, dA, DA, pA, sA', hnA, hkA⟩
                  simp (maxSteps := 2000000) (disch := first | omega | assumption) only [↓mCode, ↓mOps, mAll, seval, vPtr, ite_ne, wrap_i64, boundN_int, e1_tys, e1_fns, fn97, Tryz.f97, r0', r1, r2, r3, r4, r18, r19, r20, y1, c5p, c6p, c7p, c8p, c9p, c10p]
                  exact K _ _ _ ⟨gA, dA, DA, pp.trans (pA.mono (by omega) (Nat.le_refl _)), merge_ok (by omega) (by omega) hc p1 s9 pA sA', by omega, fun j hj => (hkA j hj).trans (hk9' j hj)⟩
                · have c9p : ((mid : Int) < (e : Int)) = True := eq_true (by omega)
                  have c10p : ((e : Int) < (b : Int)) = False := eq_false (by omega)
                  have ee : e = b := by omega
                  have sA' : Sorted ltR mid b d1 := ee ▸ tC
                  simp (maxSteps := 2000000) (disch := first | omega | assumption) only [↓mCode, ↓mOps, mAll, seval, vPtr, ite_ne, wrap_i64, boundN_int, e1_tys, e1_fns, fn97, Tryz.f97, r0', r1, r2, r3, r4, r18, r19, r20, y1, c5p, c6p, c7p, c8p, c9p, c10p]
                  exact K _ _ _ ⟨g, d1, D9, pp, merge_ok (by omega) (by omega) hc p1 s9 (PermD.refl _ _ _) sA', by omega, hk9'⟩
              · have c9p : ((mid : Int) < (e : Int)) = False := eq_false (by omega)
                have c10p := c9p
                have ee : mid = e := by omega
                have sA' : Sorted ltR mid b d1 := ee ▸ tD
                simp (maxSteps := 2000000) (disch := first | omega | assumption) only [↓mCode, ↓mOps, mAll, seval, vPtr, ite_ne, wrap_i64, boundN_int, e1_tys, e1_fns, fn97, Tryz.f97, r0', r1, r2, r3, r4, r18, r19, r20, y1, c5p, c6p, c7p, c8p, c9p, c10p]
                exact K _ _ _ ⟨g, d1, D9, pp, merge_ok (by omega) (by omega) hc p1 s9 (PermD.refl _ _ _) sA', by omega, hk9'⟩
          · have c7p : ((a : Int) < (s : Int)) = False := eq_false (by omega)
            have c8p := c7p
            have ee : s = a := by omega
            have s9 : Sorted ltR a mid d1 := ee ▸ sB
            have D9 := D8
            have p1 : PermD a mid d1 d1 := PermD.refl _ _ _
            have hn9 : n' ≤ n' := Nat.le_refl _
            have hk9' := hk8'
            have pp : PermD a b d d1 := p0.trans (p1.mono (Nat.le_refl _) (by omega))
            have tC : Sorted ltR mid e d1 := sC.congr fun i i1 i2 => p1.out (.inr i1)
            have tD : Sorted ltR e b d1 := sD.congr fun i i1 i2 => p1.out (.inr (by omega))
            by_cases c9 : mid < e
            · by_cases c10 : e < b
              · have c9p : ((mid : Int) < (e : Int)) = True := eq_true (by omega)
                have c10p : ((e : Int) < (b : Int)) = True := eq_true (by omega)
                simp (maxSteps := 2000000) (disch := first | omega | assumption) only [↓mCode, ↓mOps, mAll, seval, vPtr, ite_ne, wrap_i64, boundN_int, e1_tys, e1_fns, fn97, Tryz.f97, r0', r1, r2, r3, r4, r18, r19, r20, y1, c5p, c6p, c7p, c8p, c9p, c10p]
                refine (ih D9 (by omega) c9 c10 (by omega) (by omega) (pp.all' (p := fun x => x.length ≤ 1000000) hs) tC tD).call rfl e1_subs ?_
                rintro vA hA nA ⟨gA, dA, DA, pA, sA', hnA, hkA⟩
                simp (maxSteps := 2000000) (disch := first | omega | assumption) only [↓mCode, ↓mOps, mAll, seval, vPtr, ite_ne, wrap_i64, boundN_int, e1_tys, e1_fns, fn97, Tryz.f97, r0', r1, r2, r3, r4, r18, r19, r20, y1, c5p, c6p, c7p, c8p, c9p, c10p]
                exact K _ _ _ ⟨gA, dA, DA, pp.trans (pA.mono (by omega) (Nat.le_refl _)), merge_ok (by omega) (by omega) hc p1 s9 pA sA', by omega, fun j hj => (hkA j hj).trans (hk9' j hj)⟩
              · have c9p : ((mid : Int) < (e : Int)) = True := eq_true (by omega)
                have c10p : ((e : Int) < (b : Int)) = False := eq_false (by omega)
                have ee : e = b := by omega
                have sA' : Sorted ltR mid b d1 := ee ▸ tC
                simp (maxSteps := 2000000) (disch := first | omega | assumption) only [↓mCode, ↓mOps, mAll, seval, vPtr, ite_ne, wrap_i64, boundN_int, e1_tys, e1_fns, fn97, Tryz.f97, r0', r1, r2, r3, r4, r18, r19, r20, y1, c5p, c6p, c7p, c8p, c9p, c10p]
                exact K _ _ _ ⟨g, d1, D9, pp, merge_ok (by omega) (by omega) hc p1 s9 (PermD.refl _ _ _) sA', by omega, hk9'⟩
            · have c9p : ((mid : Int) < (e : Int)) = False := eq_false (by omega)
              have c10p := c9p
              have ee : mid = e := by omega
              have sA' : Sorted ltR mid b d1 := ee ▸ tD
              simp (maxSteps := 2000000) (disch := first | omega | assumption) only [↓mCode, ↓mOps, mAll, seval, vPtr, ite_ne, wrap_i64, boundN_int, e1_tys, e1_fns, fn97, Tryz.f97, r0', r1, r2, r3, r4, r18, r19, r20, y1, c5p, c6p, c7p, c8p, c9p, c10p]
              exact K _ _ _ ⟨g, d1, D9, pp, merge_ok (by omega) (by omega) hc p1 s9 (PermD.refl _ _ _) sA', by omega, hk9'⟩
      · have c5p : ((s : Int) < (m : Int)) = False := eq_false (by omega)
        have c6p := c5p
        have ee : s = m := by omega
        have D8 : DatA h' n0 n' id L g (rotD s m e d) := by rw [ee, rotD_left]; exact D
        have hn8 : n' ≤ n' := Nat.le_refl _
        have hk8' := hk
        generalize rotD s m e d = d1 at *
        by_cases c7 : a < s
        · by_cases c8 : s < mid
          · have c7p : ((a : Int) < (s : Int)) = True := eq_true (by omega)
            have c8p : ((s : Int) < (mid : Int)) = True := eq_true (by omega)
            simp (maxSteps := 2000000) (disch := first | omega | assumption) only [↓mCode, ↓mOps, mAll, seval, vPtr, ite_ne, wrap_i64, boundN_int, e1_tys, e1_fns, fn97, Tryz.f97, r0', r1, r2, r3, r4, r18, r19, r20, y1, c5p, c6p, c7p, c8p]
            refine (ih D8 (by omega) c7 c8 (by omega) (by omega) (p0.all' (p := fun x => x.length ≤ 1000000) hs) sA sB).call rfl e1_subs ?_
            rintro v9 h9 n9 ⟨g9, d9, D9, p1, s9, hn9, hk9⟩
            have hk9' : ∀ j, j < n0 → h9.get j = h.get j := fun j hj => (hk9 j hj).trans (hk8' j hj)
            have pp : PermD a b d d9 := p0.trans (p1.mono (Nat.le_refl _) (by omega))
            have tC : Sorted ltR mid e d9 := sC.congr fun i i1 i2 => p1.out (.inr i1)
            have tD : Sorted ltR e b d9 := sD.congr fun i i1 i2 => p1.out (.inr (by omega))
            by_cases c9 : mid < e
            · by_cases c10 : e < b
              · have c9p : ((mid : Int) < (e : Int)) = True := eq_true (by omega)
                have c10p : ((e : Int) < (b : Int)) = True := eq_true (by omega)
                simp (maxSteps := 2000000) (disch := first | omega | assumption) only [↓mCode, ↓mOps, mAll, seval, vPtr, ite_ne, wrap_i64, boundN_int, e1_tys, e1_fns, fn97, Tryz.f97, r0', r1, r2, r3, r4, r18, r19, r20, y1, c5p, c6p, c7p, c8p, c9p, c10p]
                refine (ih D9 (by omega) c9 c10 (by omega) (by omega) (pp.all' (p := fun x => x.length ≤ 1000000) hs) tC tD).call rfl e1_subs ?_
                rintro vA hA nA ⟨gA, dA, DA, pA, sA', hnA, hkA⟩
                simp (maxSteps := 2000000) (disch := first | omega | assumption) only [↓mCode, ↓mOps, mAll, seval, vPtr, ite_ne, wrap_i64, boundN_int, e1_tys, e1_fns, fn97, Tryz.f97, r0', r1, r2, r3, r4, r18, r19, r20, y1, c5p, c6p, c7p, c8p, c9p, c10p]
                exact K _ _ _ ⟨gA, dA, DA, pp.trans (pA.mono (by omega) (Nat.le_refl _)), merge_ok (by omega) (by omega) hc p1 s9 pA sA', by omega, fun j hj => (hkA j hj).trans (hk9' j hj)⟩
              · have c9p : ((mid : Int) < (e : Int)) = True := eq_true (by omega)
                have c10p : ((e : Int) < (b : Int)) = False := eq_false (by omega)
                have ee : e = b := by omega
                have sA' : Sorted ltR mid b d9 := ee ▸ tC
                simp (maxSteps := 2000000) (disch := first | omega | assumption) only [↓mCode, ↓mOps, mAll, seval, vPtr, ite_ne, wrap_i64, boundN_int, e1_tys, e1_fns, fn97, Tryz.f97, r0', r1, r2, r3, r4, r18, r19, r20, y1, c5p, c6p, c7p, c8p, c9p, c10p]
                exact K _ _ _ ⟨g9, d9, D9, pp, merge_ok (by omega) (by omega) hc p1 s9 (PermD.refl _ _ _) sA', by omega, hk9'⟩
            · have c9p : ((mid : Int) < (e : Int)) = False := eq_false (by omega)
              have c10p := c9p
              have ee : mid = e := by omega
              have sA' : Sorted ltR mid b d9 := ee ▸ tD
              simp (maxSteps := 2000000) (disch := first | omega | assumption) only [↓mCode, ↓mOps, mAll, seval, vPtr, ite_ne, wrap_i64, boundN_int, e1_tys, e1_fns, fn97, Tryz.f97, r0', r1, r2, r3, r4, r18, r19, r20, y1, c5p, c6p, c7p, c8p, c9p, c10p]
              exact K _ _ _ ⟨g9, d9, D9, pp, merge_ok (by omega) (by omega) hc p1 s9 (PermD.refl _ _ _) sA', by omega, hk9'⟩
          · have c7p : ((a : Int) < (s : Int)) = True := eq_true (by omega)
            have c8p : ((s : Int) < (mid : Int)) = False := eq_false (by omega)
            have ee : s = mid := by omega
            have s9 : Sorted ltR a mid d1 := ee ▸ sA
            have D9 := D8
            have p1 : PermD a mid d1 d1 := PermD.refl _ _ _
            have hn9 : n' ≤ n' := Nat.le_refl _
            have hk9' := hk8'
            have pp : PermD a b d d1 := p0.trans (p1.mono (Nat.le_refl _) (by omega))
            have tC : Sorted ltR mid e d1 := sC.congr fun i i1 i2 => p1.out (.inr i1)
            have tD : Sorted ltR e b d1 := sD.congr fun i i1 i2 => p1.out (.inr (by omega))
            by_cases c9 : mid < e
            · by_cases c10 : e < b
              · have c9p : ((mid : Int) < (e : Int)) = True := eq_true (by omega)
                have c10p : ((e : Int) < (b : Int)) = True := eq_true (by omega)
                simp (maxSteps := 2000000) (disch := first | omega | assumption) only [↓mCode, ↓mOps, mAll, seval, vPtr, ite_ne, wrap_i64, boundN_int, e1_tys, e1_fns, fn97, Tryz.f97, r0', r1, r2, r3, r4, r18, r19, r20, y1, c5p, c6p, c7p, c8p, c9p, c10p]
                refine (ih D9 (by omega) c9 c10 (by omega) (by omega) (pp.all' (p := fun x => x.length ≤ 1000000) hs) tC tD).call rfl e1_subs ?_
                rintro vA hA nA ⟨gA, dA, DA, pA, sA', hnA, hkA⟩
                simp (maxSteps := 2000000) (disch := first | omega | assumption) only [↓mCode, ↓mOps, mAll, seval, vPtr, ite_ne, wrap_i64, boundN_int, e1_tys, e1_fns, fn97, Tryz.f97, r0', r1, r2, r3, r4, r18, r19, r20, y1, c5p, c6p, c7p, c8p, c9p, c10p]
                exact K _ _ _ ⟨gA, dA, DA, pp.trans (pA.mono (by omega) (Nat.le_refl _)), merge_ok (by omega) (by omega) hc p1 s9 pA sA', by omega, fun j hj => (hkA j hj).trans (hk9' j hj)⟩
              · have c9p : ((mid : Int) < (e : Int)) = True := eq_true (by omega)
                have c10p : ((e : Int) < (b : Int)) = False := eq_false (by omega)
                have ee : e = b := by omega
                have sA' : Sorted ltR mid b d1 := ee ▸ tC
                simp (maxSteps := 2000000) (disch := first | omega | assumption) only [↓mCode, ↓mOps, mAll, seval, vPtr, ite_ne, wrap_i64, boundN_int, e1_tys, e1_fns, fn97, Tryz.f97, r0', r1, r2, r3, r4, r18, r19, r20, y1, c5p, c6p, c7p, c8p, c9p, c10p]
                exact K _ _ _ ⟨g, d1, D9, pp, merge_ok (by omega) (by omega) hc p1 s9 (PermD.refl _ _ _) sA', by omega, hk9'⟩
            · have c9p : ((mid : Int) < (e : Int)) = False := eq_false (by omega)
              have c10p := c9p
              have ee : mid = e := by omega
              have sA' : Sorted ltR mid b d1 := ee ▸ tD
              simp (maxSteps := 2000000) (disch := first | omega | assumption) only [↓mCode, ↓mOps, mAll, seval, vPtr, ite_ne, wrap_i64, boundN_int, e1_tys, e1_fns, fn97, Tryz.f97, r0', r1, r2, r3, r4, r18, r19, r20, y1, c5p, c6p, c7p, c8p, c9p, c10p]
              exact K _ _ _ ⟨g, d1, D9, pp, merge_ok (by omega) (by omega) hc p1 s9 (PermD.refl _ _ _) sA', by omega, hk9'⟩
        · have c7p : ((a : Int) < (s : Int)) = False := eq_false (by omega)
          have c8p := c7p
          have ee : s = a := by omega
          have s9 : Sorted ltR a mid d1 := ee ▸ sB
          have D9 := D8
          have p1 : PermD a mid d1 d1 := PermD.refl _ _ _
          have hn9 : n' ≤ n' := Nat.le_refl _
          have hk9' := hk8'
          have pp : PermD a b d d1 := p0.trans (p1.mono (Nat.le_refl _) (by omega))
          have tC : Sorted ltR mid e d1 := sC.congr fun i i1 i2 => p1.out (.inr i1)
          have tD : Sorted ltR e b d1 := sD.congr fun i i1 i2 => p1.out (.inr (by omega))
          by_cases c9 : mid < e
          · by_cases c10 : e < b
            · have c9p : ((mid : Int) < (e : Int)) = True := eq_true (by omega)
              have c10p : ((e : Int) < (b : Int)) = True := eq_true (by omega)
              simp (maxSteps := 2000000) (disch := first | omega | assumption) only [↓mCode, ↓mOps, mAll, seval, vPtr, ite_ne, wrap_i64, boundN_int, e1_tys, e1_fns, fn97, Tryz.f97, r0', r1, r2, r3, r4, r18, r19, r20, y1, c5p, c6p, c7p, c8p, c9p, c10p]
              refine (ih D9 (by omega) c9 c10 (by omega) (by omega) (pp.all' (p := fun x => x.length ≤ 1000000) hs) tC tD).call rfl e1_subs ?_
              rintro vA hA nA ⟨gA, dA, DA, pA, sA', hnA, hkA⟩
              simp (maxSteps := 2000000) (disch := first | omega | assumption) only [↓mCode, ↓mOps, mAll, seval, vPtr, ite_ne, wrap_i64, boundN_int, e1_tys, e1_fns, fn97, Tryz.f97, r0', r1, r2, r3, r4, r18, r19, r20, y1, c5p, c6p, c7p, c8p, c9p, c10p]
              exact K _ _ _ ⟨gA, dA, DA, pp.trans (pA.mono (by omega) (Nat.le_refl _)), merge_ok (by omega) (by omega) hc p1 s9 pA sA', by omega, fun j hj => (hkA j hj).trans (hk9' j hj)⟩
            · have c9p : ((mid : Int) < (e : Int)) = True := eq_true (by omega)
              have c10p : ((e : Int) < (b : Int)) = False := eq_false (by omega)
              have ee : e = b := by omega
              have sA' : Sorted ltR mid b d1 := ee ▸ tC
              simp (maxSteps := 2000000) (disch := first | omega | assumption) only [↓mCode, ↓mOps, mAll, seval, vPtr, ite_ne, wrap_i64, boundN_int, e1_tys, e1_fns, fn97, Tryz.f97, r0', r1, r2, r3, r4, r18, r19, r20, y1, c5p, c6p, c7p, c8p, c9p, c10p]
              exact K _ _ _ ⟨g, d1, D9, pp, merge_ok (by omega) (by omega) hc p1 s9 (PermD.refl _ _ _) sA', by omega, hk9'⟩
          · have c9p : ((mid : Int) < (e : Int)) = False := eq_false (by omega)
            have c10p := c9p
            have ee : mid = e := by omega
            have sA' : Sorted ltR mid b d1 := ee ▸ tD
            simp (maxSteps := 2000000) (disch := first | omega | assumption) only [↓mCode, ↓mOps, mAll, seval, vPtr, ite_ne, wrap_i64, boundN_int, e1_tys, e1_fns, fn97, Tryz.f97, r0', r1, r2, r3, r4, r18, r19, r20, y1, c5p, c6p, c7p, c8p, c9p, c10p]
            exact K _ _ _ ⟨g, d1, D9, pp, merge_ok (by omega) (by omega) hc p1 s9 (PermD.refl _ _ _) sA', by omega, hk9'⟩
end Go.Mir
