/- Walks: are the rows too many, or their texts too long (the reference's Much)? Of any length. -/
import Derived.Test.YthninknobjneeaaGreatDoorTexA
import Derived.Test.YthninknobjneeaaGreatDoorRw
set_option linter.unusedSimpArgs false
set_option linter.unusedVariables false
namespace Go.Mir
open Go Go.Proofs
set_option maxRecDepth 4000
set_option maxHeartbeats 16000000

/-- texts that are short -/
def Sho (x : Tm) : Prop := x.2.1.length ≤ 30000 ∧ x.2.2.length ≤ 30000
theorem RowIn.at2 {h : T O} {n : Nat} {v : V} {ls : List (List Tm)} (R : RowsIn h n v ls) {i : Nat} (hi : i < ls.length) : ∃ id off ex k lo r, v = .slice id off ls.length ex k lo ∧ ls.length ≤ lo ∧ id < n ∧
    (∀ {kk : V → Out}, cellAt h id (off + i * 1) kk = kk r) ∧ RowIn h n r (ls.getD i []) := by
  obtain ⟨hv, g, S, hr⟩ := R
  generalize hL : ls.length = L at S
  cases S with
  | nil => omega
  | tail => omega
  | slice id off len ex k lo hlo C =>
    exact ⟨id, off, ex, k, lo, g i, rfl, by omega, hv id rfl, fun {kk} => C.at (j := i) (by omega) (by omega), hr i (by omega)⟩

theorem much5_ok {h : T O} {n : Nat} {va : V} {la : List (List Tm)} (ha : RowsIn h n va la) :
    Fn env0 5 [va] h n (fun v h' n' => (∃ b, v = .bool b ∧ (b = false → Few la ∧ ∀ i, i < la.length → ∀ j, j < (la.getD i []).length → Sho ((la.getD i []).getD j (0, [], [])))) ∧ h' = h ∧ n' = n) := by
  refine Fn.mk fn5 rfl fz5 (by simp) fun Q cs K => ?_
  have l_len : ∀ {e : Nat} {k : V → Out}, lenIn h (.slice e) va k = k (.int .i64 (la.length : Int)) := ha.rows.len
  simp (maxSteps := 2000000) (disch := first | omega | assumption) only [↓mCode, ↓mOps, mAll, seval, vPtr, ite_ne, wrap_i64, boundN_int, fn5, Tryz.f5, l_len]
  refine W_loopE (fun m regs h' n' => ∃ (i : Nat) (c : Int), m = la.length - i ∧ i ≤ la.length ∧ i ≤ 101 ∧ 0 ≤ c ∧ c ≤ 30000 ∧ regs.get 0 = some va ∧ regs.get 3 = some (.int .i64 c) ∧ regs.get 4 = some (.int .i64 (i : Int)) ∧
    (∀ j, j < i → (la.getD j []).length ≤ 100 ∧ ∀ k, k < (la.getD j []).length → Sho ((la.getD j []).getD k (0, [], []))) ∧ h' = h ∧ n' = n)
    (fun regs h' n' => regs.get 0 = some va ∧ (la.length ≤ 100 → ∀ j, j < la.length → (la.getD j []).length ≤ 100 ∧ ∀ k, k < (la.getD j []).length → Sho ((la.getD j []).getD k (0, [], []))) ∧ h' = h ∧ n' = n)
    _ ⟨0, 0, rfl, by omega, by omega, by omega, by omega, ?_, ?_, ?_, fun j hj => by omega, rfl, rfl⟩ ?_ ?_
  iterate 3
    · simp only [mBase, Nat.reduceEqDiff, Nat.reduceSub, reduceIte] <;> rfl
  · rintro t hexit m regs h' n' ⟨i, c, rfl, hi, hi2, hc0, hc1, r0, r3, r4, hj, rfl, rfl⟩ IH
    by_cases c1 : i < la.length
    · have c1' : ((i : Int) < (la.length : Int)) = True := eq_true (by omega)
      by_cases c2 : i ≤ 100
      · have c2' : ((i : Int) ≤ 100) = True := eq_true (by omega)
        obtain ⟨ida, ofa, exa, ka, loa, ra, hvl, hloa, hida, hca, hra⟩ := RowIn.at2 ha c1
        have r_len : ∀ {e : Nat} {k : V → Out}, lenIn h' (.slice e) ra k = k (.int .i64 ((la.getD i []).length : Int)) := Sl.len hra.1
        simp (maxSteps := 2000000) (disch := first | omega | assumption) only [↓mCode, ↓mOps, mAll, seval, vPtr, ite_ne, wrap_i64, boundN_int, fn5, Tryz.f5, r0, r3, r4, l_len, c1', c2', hvl, ↓hca]
        generalize hrow : la.getD i [] = row at *
        refine W_loopE (fun m regs h9 n9 => ∃ (k : Nat) (z : Int), m = row.length - k ∧ k ≤ row.length ∧ k ≤ 101 ∧ 0 ≤ z ∧ z ≤ 30000 + k * 60003 ∧ regs.get 0 = some va ∧ regs.get 3 = some (.int .i64 z) ∧ regs.get 4 = some (.int .i64 (i : Int)) ∧
          regs.get 5 = some (.int .i64 (k : Int)) ∧ (∀ a, a < k → ((min (row.getD a (0, [], [])).2.1.length 30001 : Nat) : Int) ≤ z ∧ ((min (row.getD a (0, [], [])).2.2.length 30001 : Nat) : Int) ≤ z) ∧ h9 = h' ∧ n9 = n')
          (fun regs h9 n9 => ∃ z : Int, 0 ≤ z ∧ regs.get 0 = some va ∧ regs.get 3 = some (.int .i64 z) ∧ regs.get 4 = some (.int .i64 (i : Int)) ∧
            (row.length ≤ 100 → ∀ a, a < row.length → ((min (row.getD a (0, [], [])).2.1.length 30001 : Nat) : Int) ≤ z ∧ ((min (row.getD a (0, [], [])).2.2.length 30001 : Nat) : Int) ≤ z) ∧ h9 = h' ∧ n9 = n')
          _ ⟨0, c, rfl, by omega, by omega, hc0, by omega, ?_, ?_, ?_, ?_, fun a ha => absurd ha (by omega), rfl, rfl⟩ ?_ ?_
        iterate 4
          · simp only [mBase, Nat.reduceEqDiff, Nat.reduceSub, reduceIte, r0, hvl, r3, r4] <;> rfl
        · rintro t2 hexit2 m regs h9 n9 ⟨k, z, rfl, hk, hk2, hz0, hz1, r0, r3, r4, r5, hsz, rfl, rfl⟩ IH2
          by_cases d1 : k < row.length
          · have d1' : ((k : Int) < (row.length : Int)) = True := eq_true (by omega)
            by_cases d2 : k ≤ 100
            · have d2' : ((k : Int) ≤ 100) = True := eq_true (by omega)
              obtain ⟨idr, ofr, exr, kr, lor, hrl, hlor, hcr1, hcr2⟩ := Row.cells hra.1 d1
              simp (maxSteps := 2000000) (disch := first | omega | assumption) only [↓mCode, ↓mOps, mAll, seval, vPtr, ite_ne, wrap_i64, boundN_int, fn5, Tryz.f5, r0, r3, r4, r5, l_len, r_len, d1', d2', hvl, ↓hca]
              refine W_draw sr5_8 ss5_8 ?_ ?_
              · exact sk5_8
              simp (maxSteps := 2000000) (disch := first | omega | assumption) only [↓mCode, ↓mOps, mAll, seval, vPtr, ite_ne, wrap_i64, boundN_int, fn5, Tryz.f5, r0, r3, r4, r5, l_len, r_len, d1', d2', hvl, ↓hca, hrl, hcr1, hcr2, minE]
              refine IH2 (row.length - (k + 1)) _ _ _ (by omega) ⟨k + 1, z + 1 + ((min (row.getD k (0, [], [])).2.1.length 30001 : Nat) : Int) + ((min (row.getD k (0, [], [])).2.2.length 30001 : Nat) : Int), rfl, by omega, by omega, by omega, by omega, ?_, ?_, ?_, ?_, fun a ha => ?_, rfl, rfl⟩
              iterate 4
                · simp only [mBase, Nat.reduceEqDiff, Nat.reduceSub, reduceIte, r0, hvl, r3, r4, r5] <;> rfl
              · by_cases e : a = k
                · subst e; omega
                · have := hsz a (by omega); omega
            · have d2' : ((k : Int) ≤ 100) = False := eq_false (by omega)
              simp (maxSteps := 2000000) (disch := first | omega | assumption) only [↓mCode, ↓mOps, mAll, seval, vPtr, ite_ne, wrap_i64, boundN_int, fn5, Tryz.f5, r0, r3, r4, r5, l_len, r_len, d1', d2', hvl, ↓hca]
              refine hexit2 _ _ _ ⟨z, hz0, ?_, ?_, ?_, fun q => absurd q (by omega), rfl, rfl⟩
              iterate 3
                · simp only [mBase, Nat.reduceEqDiff, Nat.reduceSub, reduceIte, r0, hvl, r3, r4] <;> rfl
          · have d1' : ((k : Int) < (row.length : Int)) = False := eq_false (by omega)
            simp (maxSteps := 2000000) (disch := first | omega | assumption) only [↓mCode, ↓mOps, mAll, seval, vPtr, ite_ne, wrap_i64, boundN_int, fn5, Tryz.f5, r0, r3, r4, r5, l_len, r_len, d1', hvl, ↓hca]
            refine hexit2 _ _ _ ⟨z, hz0, ?_, ?_, ?_, fun _ a ha => hsz a (by omega), rfl, rfl⟩
            iterate 3
              · simp only [mBase, Nat.reduceEqDiff, Nat.reduceSub, reduceIte, r0, hvl, r3, r4] <;> rfl
        · rintro regs h9 n9 ⟨z, hz0, r0, r3, r4, hsz, rfl, rfl⟩
          by_cases d1 : 30000 < z
          · have d1' : ((30000 : Int) < z) = True := eq_true d1
            simp (maxSteps := 2000000) (disch := first | omega | assumption) only [↓mCode, ↓mOps, mAll, seval, vPtr, ite_ne, wrap_i64, boundN_int, fn5, Tryz.f5, r0, r3, r4, l_len, r_len, d1', decide_true, hvl, ↓hca]
            exact K _ _ _ ⟨⟨true, rfl, fun h => (by cases h)⟩, rfl, rfl⟩
          · have d1' : ((30000 : Int) < z) = False := eq_false d1
            by_cases d2 : 100 < row.length
            · have d2' : ((100 : Int) < (row.length : Int)) = True := eq_true (by omega)
              simp (maxSteps := 2000000) (disch := first | omega | assumption) only [↓mCode, ↓mOps, mAll, seval, vPtr, ite_ne, wrap_i64, boundN_int, fn5, Tryz.f5, r0, r3, r4, l_len, r_len, d1', d2', decide_true, decide_false, hvl, ↓hca]
              exact K _ _ _ ⟨⟨true, rfl, fun h => (by cases h)⟩, rfl, rfl⟩
            · have d2' : ((100 : Int) < (row.length : Int)) = False := eq_false (by omega)
              simp (maxSteps := 2000000) (disch := first | omega | assumption) only [↓mCode, ↓mOps, mAll, seval, vPtr, ite_ne, wrap_i64, boundN_int, fn5, Tryz.f5, r0, r3, r4, l_len, r_len, d1', d2', decide_true, decide_false, hvl, ↓hca]
              refine IH (la.length - (i + 1)) _ _ _ (by omega) ⟨i + 1, z, rfl, by omega, by omega, hz0, by omega, ?_, ?_, ?_, fun j hj' => ?_, rfl, rfl⟩
              iterate 3
                · simp only [mBase, Nat.reduceEqDiff, Nat.reduceSub, reduceIte, r0, hvl, r3, r4] <;> rfl
              · rcases Nat.lt_or_ge j i with h | h
                · exact hj j h
                · have e : j = i := by omega
                  subst e
                  rw [hrow]
                  refine ⟨by omega, fun a ha => ?_⟩
                  have := hsz (by omega) a ha
                  exact ⟨by omega, by omega⟩
      · have c2' : ((i : Int) ≤ 100) = False := eq_false (by omega)
        simp (maxSteps := 2000000) (disch := first | omega | assumption) only [↓mCode, ↓mOps, mAll, seval, vPtr, ite_ne, wrap_i64, boundN_int, fn5, Tryz.f5, r0, r3, r4, l_len, c1', c2']
        refine hexit _ _ _ ⟨?_, fun h => absurd h (by omega), rfl, rfl⟩
        simp (maxSteps := 2000000) (disch := first | omega | assumption) only [↓mCode, ↓mOps, mAll, seval, vPtr, ite_ne, wrap_i64, boundN_int, r0]
    · have c1' : ((i : Int) < (la.length : Int)) = False := eq_false (by omega)
      simp (maxSteps := 2000000) (disch := first | omega | assumption) only [↓mCode, ↓mOps, mAll, seval, vPtr, ite_ne, wrap_i64, boundN_int, fn5, Tryz.f5, r0, r3, r4, l_len, c1']
      refine hexit _ _ _ ⟨?_, fun _ j h => hj j (by omega), rfl, rfl⟩
      simp (maxSteps := 2000000) (disch := first | omega | assumption) only [↓mCode, ↓mOps, mAll, seval, vPtr, ite_ne, wrap_i64, boundN_int, r0]
  · rintro regs h' n' ⟨r0, hj, rfl, rfl⟩
    simp (maxSteps := 2000000) (disch := first | omega | assumption) only [↓mCode, ↓mOps, mAll, seval, vPtr, ite_ne, wrap_i64, boundN_int, fn5, Tryz.f5, r0, l_len]
    refine K _ _ _ ⟨⟨_, rfl, fun hb => ?_⟩, rfl, rfl⟩
    have : la.length ≤ 100 := by
      have := of_decide_eq_false hb; omega
    exact ⟨⟨this, fun i hi => (hj this i hi).1⟩, fun i hi => (hj this i hi).2⟩
end Go.Mir
