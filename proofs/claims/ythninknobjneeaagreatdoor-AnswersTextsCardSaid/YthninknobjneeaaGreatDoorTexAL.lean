/- Walks: is a question too big (the references' Much of rules and of questions)? -/
import Derived.Test.YthninknobjneeaaGreatDoorTexAI
set_option linter.unusedSimpArgs false
set_option linter.unusedVariables false
namespace Go.Mir
open Go Go.Proofs
set_option maxRecDepth 4000
set_option maxHeartbeats 32000000

def szS (s : SlotT) : Nat := min s.1.length 30001 + min s.2.2.1.length 30001 + min s.2.2.2.length 30001
def szP (p : PatT) : Nat := 1 + szS p.1 + szS p.2.1 + szS p.2.2
def szL (x : LitT) : Nat := szP x.2.1 + szP (x.2.2.1, x.2.2.2, zS)
theorem szS_le {s : SlotT} : szS s ≤ 90003 := by unfold szS; omega
theorem szL_le {x : LitT} : szL x ≤ 600000 := by
  have a := szS_le (s := x.2.1.1)
  have b := szS_le (s := x.2.1.2.1)
  have c := szS_le (s := x.2.1.2.2)
  have d := szS_le (s := x.2.2.1)
  have e := szS_le (s := x.2.2.2)
  have f := szS_le (s := zS)
  unfold szL szP; dsimp only; omega
theorem min_small {a : Nat} (h : min a 30001 ≤ 30000) : a ≤ 30000 := by omega

theorem size52_ok {p : PatT} {h : T O} {n : Nat} : Fn env0 26 [.agg (patC p)] h n (fun v h' n' => v = .int .i64 (szP p : Int) ∧ Gro h n h' n') := by
  obtain ⟨⟨w0, k0, s0, e0⟩, ⟨w1, k1, s1, e1⟩, ⟨w2, k2, s2, e2⟩⟩ := p
  refine Fn.mk fn26 rfl fz26 (by simp) fun Q cs K => ?_
  generalize hhB : h.put n (some (.cells (ofT (patC ((w0, k0, s0, e0), (w1, k1, s1, e1), (w2, k2, s2, e2)))) 12 12)) = hB
  have GB : Gro h n hB (n + 1) := by rw [← hhB]; exact (Gro.refl h n).put _
  have gn : hB.get n = some (.cells (ofT (patC ((w0, k0, s0, e0), (w1, k1, s1, e1), (w2, k2, s2, e2)))) 12 12) := by rw [← hhB, T.get_put, if_pos rfl]
  have d0 : ∀ {kk : V → Out}, cellAt hB n 0 kk = kk (.str w0) := fun {kk} => cell_of gn (by omega) rfl
  have d2 : ∀ {kk : V → Out}, cellAt hB n 2 kk = kk (.str s0) := fun {kk} => cell_of gn (by omega) rfl
  have d3 : ∀ {kk : V → Out}, cellAt hB n 3 kk = kk (.str e0) := fun {kk} => cell_of gn (by omega) rfl
  have d4 : ∀ {kk : V → Out}, cellAt hB n 4 kk = kk (.str w1) := fun {kk} => cell_of gn (by omega) rfl
  have d6 : ∀ {kk : V → Out}, cellAt hB n 6 kk = kk (.str s1) := fun {kk} => cell_of gn (by omega) rfl
  have d7 : ∀ {kk : V → Out}, cellAt hB n 7 kk = kk (.str e1) := fun {kk} => cell_of gn (by omega) rfl
  have d8 : ∀ {kk : V → Out}, cellAt hB n 8 kk = kk (.str w2) := fun {kk} => cell_of gn (by omega) rfl
  have d10 : ∀ {kk : V → Out}, cellAt hB n 10 kk = kk (.str s2) := fun {kk} => cell_of gn (by omega) rfl
  have d11 : ∀ {kk : V → Out}, cellAt hB n 11 kk = kk (.str e2) := fun {kk} => cell_of gn (by omega) rfl
  have sz : (szP ((w0, k0, s0, e0), (w1, k1, s1, e1), (w2, k2, s2, e2)) : Int) = 1 + ((min w0.length 30001 : Nat) : Int) + ((min s0.length 30001 : Nat) : Int) + ((min e0.length 30001 : Nat) : Int) + ((min w1.length 30001 : Nat) : Int) + ((min s1.length 30001 : Nat) : Int) + ((min e1.length 30001 : Nat) : Int) + ((min w2.length 30001 : Nat) : Int) + ((min s2.length 30001 : Nat) : Int) + ((min e2.length 30001 : Nat) : Int) := by
    unfold szP szS; simp only []; omega
  simp (maxSteps := 2000000) (disch := first | omega | assumption) only [↓mCode, ↓mOps, mAll, seval, vPtr, ite_ne, wrap_i64, boundN_int, fn26, Tryz.f26, mLit, decide_true, decide_false, hhB]
  refine W_loopE (fun q regs h1 n1 => ∃ (i : Nat) (z : Int), q = 3 - i ∧ i ≤ 3 ∧ regs.get 1 = some (.ptr n 0) ∧ regs.get 3 = some (.int .i64 z) ∧ regs.get 4 = some (.int .i64 (i : Int)) ∧
      (i = 0 → z = 1) ∧ (i = 1 → z = 1 + ((min w0.length 30001 : Nat) : Int) + ((min s0.length 30001 : Nat) : Int) + ((min e0.length 30001 : Nat) : Int)) ∧
      (i = 2 → z = 1 + ((min w0.length 30001 : Nat) : Int) + ((min s0.length 30001 : Nat) : Int) + ((min e0.length 30001 : Nat) : Int) + ((min w1.length 30001 : Nat) : Int) + ((min s1.length 30001 : Nat) : Int) + ((min e1.length 30001 : Nat) : Int)) ∧
      (i = 3 → z = szP ((w0, k0, s0, e0), (w1, k1, s1, e1), (w2, k2, s2, e2))) ∧ h1 = hB ∧ n1 = n + 1)
    (fun regs h1 n1 => regs.get 3 = some (.int .i64 (szP ((w0, k0, s0, e0), (w1, k1, s1, e1), (w2, k2, s2, e2)))) ∧ h1 = hB ∧ n1 = n + 1)
    _ ⟨0, 1, rfl, by omega, ?_, ?_, ?_, fun _ => rfl, fun q => absurd q (by omega), fun q => absurd q (by omega), fun q => absurd q (by omega), rfl, rfl⟩ ?_ ?_
  iterate 3
    · simp only [mBase, Nat.reduceEqDiff, Nat.reduceSub, reduceIte] <;> rfl
  · rintro tt hexit q regs h1 n1 ⟨i, z, rfl, hi, r1, r3, r4, z0, z1, z2, z3, rfl, rfl⟩ IH
    rcases (by omega : i = 0 ∨ i = 1 ∨ i = 2 ∨ i = 3) with rfl | rfl | rfl | rfl
    · have zz := z0 rfl
      have c1' : ((((0 : Nat) : Int)) < 3) = True := eq_true (by omega)
      have hz : 0 ≤ z ∧ z ≤ 1000000 := by rw [zz]; omega
      simp (maxSteps := 2000000) (disch := first | omega | assumption) only [↓mCode, ↓mOps, mAll, seval, vPtr, ite_ne, wrap_i64, boundN_int, fn26, Tryz.f26, mLit, decide_true, decide_false, r1, r3, r4, c1']
      refine W_draw sr26_5 ss26_5 ?_ ?_
      · exact sk26_5
      simp (maxSteps := 2000000) (disch := first | omega | assumption) only [↓mCode, ↓mOps, mAll, seval, vPtr, ite_ne, wrap_i64, boundN_int, fn26, Tryz.f26, mLit, decide_true, decide_false, r1, r3, r4, d0, d2, d3, minE]
      refine IH (3 - 1) _ _ _ (by omega) ⟨1, z + ((min w0.length 30001 : Nat) : Int) + ((min s0.length 30001 : Nat) : Int) + ((min e0.length 30001 : Nat) : Int), rfl, by omega, ?_, ?_, ?_, fun q => absurd q (by omega), fun q => by rw [zz], fun q => absurd q (by omega), fun q => absurd q (by omega), rfl, rfl⟩
      iterate 3
        · simp only [mBase, Nat.reduceEqDiff, Nat.reduceSub, reduceIte, r1, r3, r4] <;> rfl
    · have zz := z1 rfl
      have c1' : ((((1 : Nat) : Int)) < 3) = True := eq_true (by omega)
      have hz : 0 ≤ z ∧ z ≤ 1000000 := by rw [zz]; omega
      simp (maxSteps := 2000000) (disch := first | omega | assumption) only [↓mCode, ↓mOps, mAll, seval, vPtr, ite_ne, wrap_i64, boundN_int, fn26, Tryz.f26, mLit, decide_true, decide_false, r1, r3, r4, c1']
      refine W_draw sr26_5 ss26_5 ?_ ?_
      · exact sk26_5
      simp (maxSteps := 2000000) (disch := first | omega | assumption) only [↓mCode, ↓mOps, mAll, seval, vPtr, ite_ne, wrap_i64, boundN_int, fn26, Tryz.f26, mLit, decide_true, decide_false, r1, r3, r4, d4, d6, d7, minE]
      refine IH (3 - 2) _ _ _ (by omega) ⟨2, z + ((min w1.length 30001 : Nat) : Int) + ((min s1.length 30001 : Nat) : Int) + ((min e1.length 30001 : Nat) : Int), rfl, by omega, ?_, ?_, ?_, fun q => absurd q (by omega), fun q => absurd q (by omega), fun q => by rw [zz], fun q => absurd q (by omega), rfl, rfl⟩
      iterate 3
        · simp only [mBase, Nat.reduceEqDiff, Nat.reduceSub, reduceIte, r1, r3, r4] <;> rfl
    · have zz := z2 rfl
      have c1' : ((((2 : Nat) : Int)) < 3) = True := eq_true (by omega)
      have hz : 0 ≤ z ∧ z ≤ 1000000 := by rw [zz]; omega
      simp (maxSteps := 2000000) (disch := first | omega | assumption) only [↓mCode, ↓mOps, mAll, seval, vPtr, ite_ne, wrap_i64, boundN_int, fn26, Tryz.f26, mLit, decide_true, decide_false, r1, r3, r4, c1']
      refine W_draw sr26_5 ss26_5 ?_ ?_
      · exact sk26_5
      simp (maxSteps := 2000000) (disch := first | omega | assumption) only [↓mCode, ↓mOps, mAll, seval, vPtr, ite_ne, wrap_i64, boundN_int, fn26, Tryz.f26, mLit, decide_true, decide_false, r1, r3, r4, d8, d10, d11, minE]
      refine IH (3 - 3) _ _ _ (by omega) ⟨3, z + ((min w2.length 30001 : Nat) : Int) + ((min s2.length 30001 : Nat) : Int) + ((min e2.length 30001 : Nat) : Int), rfl, by omega, ?_, ?_, ?_, fun q => absurd q (by omega), fun q => absurd q (by omega), fun q => absurd q (by omega), fun q => by rw [zz, sz], rfl, rfl⟩
      iterate 3
        · simp only [mBase, Nat.reduceEqDiff, Nat.reduceSub, reduceIte, r1, r3, r4] <;> rfl
    · have zz := z3 rfl
      have c1' : ((((3 : Nat) : Int)) < 3) = False := eq_false (by omega)
      simp (maxSteps := 2000000) (disch := first | omega | assumption) only [↓mCode, ↓mOps, mAll, seval, vPtr, ite_ne, wrap_i64, boundN_int, fn26, Tryz.f26, mLit, decide_true, decide_false, r1, r3, r4, c1']
      exact hexit _ _ _ ⟨by simp only [mBase, Nat.reduceEqDiff, Nat.reduceSub, reduceIte, r3]; rw [zz], rfl, rfl⟩
  · rintro regs h1 n1 ⟨r3, rfl, rfl⟩
    simp (maxSteps := 2000000) (disch := first | omega | assumption) only [↓mCode, ↓mOps, mAll, seval, vPtr, ite_ne, wrap_i64, boundN_int, fn26, Tryz.f26, mLit, decide_true, decide_false, r3]
    exact K _ _ _ ⟨rfl, GB⟩
end Go.Mir
namespace Go.Mir
open Go Go.Proofs
set_option maxRecDepth 4000
set_option maxHeartbeats 32000000

theorem lay_P12 {x : LitT} {t : T V} {k : List V → Out} : loadN (layT t 0 (litC x)) 1 12 k = k (patC x.2.1) := (lay_ld (by omega)).trans rfl
theorem same4 {w s e : List Nat} {z : Int} {k : Out} : need (sameV (.agg [.str w, .int .i64 z, .str s, .str e]) (.agg [.str w, .int .i64 z, .str s, .str e])) k = k := same_slot (s := (w, z, s, e))
theorem same12 {w s e w' s' e' w'' s'' e'' : List Nat} {z z' z'' : Int} {k : Out} :
    need (sameV (.agg [.str w, .int .i64 z, .str s, .str e, .str w', .int .i64 z', .str s', .str e', .str w'', .int .i64 z'', .str s'', .str e'']) (.agg [.str w, .int .i64 z, .str s, .str e, .str w', .int .i64 z', .str s', .str e', .str w'', .int .i64 z'', .str s'', .str e''])) k = k := by
  have : sameV (.agg [.str w, .int .i64 z, .str s, .str e, .str w', .int .i64 z', .str s', .str e', .str w'', .int .i64 z'', .str s'', .str e'']) (.agg [.str w, .int .i64 z, .str s, .str e, .str w', .int .i64 z', .str s', .str e', .str w'', .int .i64 z'', .str s'', .str e'']) = true := by
    have i1 : ∀ z : Int, and (sameKind .i64 .i64) (ieq z z) = true := fun z => by rw [sameKind_self, ieq_eq]; simp
    show (Bool.rec false (Bool.rec false (Bool.rec false (Bool.rec false (Bool.rec false (Bool.rec false (Bool.rec false (Bool.rec false (Bool.rec false (Bool.rec false (Bool.rec false (Bool.rec false true (eqL e'' e'')) (eqL s'' s'')) (and (sameKind .i64 .i64) (ieq z'' z''))) (eqL w'' w''))
      (eqL e' e')) (eqL s' s')) (and (sameKind .i64 .i64) (ieq z' z'))) (eqL w' w')) (eqL e e)) (eqL s s)) (and (sameKind .i64 .i64) (ieq z z))) (eqL w w) : Bool) = true
    simp only [eqL_self, i1]
  rw [this]; rfl

/-- the rule that stands for a question's body -/
def ruleC (vb : V) : List V := [.str [], .int .i64 0, .str [], .str [], .str [], .int .i64 0, .str [], .str [], .str [], .int .i64 0, .str [], .str [], vb]

theorem much35_ok {h : T O} {n m : Nat} {vb : V} {body : List LitT} (Rb : LitIn h n vb body) (hg : h.get m = some (.cells (ofT (ruleC vb)) 13 13)) (hm : m < n) :
    Fn env0 12 [.slice m 0 1 true 1 1, .int .i64 1] h n (fun v h' n' => (∃ b, v = .bool b ∧ (b = false → ∀ i, i < body.length → szL (body.getD i zLit) ≤ 30000)) ∧ Gro h n h' n') := by
  refine Fn.mk fn12 rfl fz12 (by simp) fun Q cs K => ?_
  have lenB : ∀ {hh : T O} {e : Nat} {k : V → Out}, lenIn hh (.slice e) vb k = k (.int .i64 (body.length : Int)) := Rb.1.lenA
  have szz : (szP zP : Int) = 1 := rfl
  simp (maxSteps := 2000000) (disch := first | omega | assumption) only [↓mCode, ↓mOps, mAll, seval, vPtr, ite_ne, wrap_i64, boundN_int, fn12, Tryz.f12]
  refine W_loopE (fun q regs h1 n1 => ∃ (i : Nat) (z : Int), q = 1 - i ∧ i ≤ 1 ∧ regs.get 0 = some (.slice m 0 1 true 1 1) ∧ regs.get 1 = some (.int .i64 1) ∧ regs.get 5 = some (.int .i64 z) ∧ regs.get 6 = some (.int .i64 (i : Int)) ∧ (i = 0 → z = 0) ∧
      (i = 1 → ∀ i, i < body.length → szL (body.getD i zLit) ≤ 30000) ∧ Gro h n h1 n1)
    (fun regs h1 n1 => regs.get 0 = some (.slice m 0 1 true 1 1) ∧ regs.get 1 = some (.int .i64 1) ∧ (∀ i, i < body.length → szL (body.getD i zLit) ≤ 30000) ∧ Gro h n h1 n1)
    _ ⟨0, 0, rfl, by omega, ?_, ?_, ?_, ?_, fun _ => rfl, fun q => absurd q (by omega), Gro.refl h n⟩ ?_ ?_
  iterate 4
    · simp only [mBase, Nat.reduceEqDiff, Nat.reduceSub, reduceIte] <;> rfl
  · rintro tt hexit q regs h1 n1 ⟨i, z, rfl, hi, r0, r1, r5, r6, z0, z1, G⟩ IH
    rcases (by omega : i = 0 ∨ i = 1) with rfl | rfl
    · obtain rfl := z0 rfl
      have c1' : ((((0 : Nat) : Int)) < 1) = True := eq_true (by omega)
      have c2' : ((((0 : Nat) : Int)) ≤ 1) = True := eq_true (by omega)
      have gm1 : h1.get m = some (.cells (ofT (ruleC vb)) 13 13) := by rw [G.2 m hm]; exact hg
      have b0 : ∀ {kk : List V → Out}, cellsAt h1 m 0 12 kk = kk (patC zP) := fun {kk} => by
        rw [cellsAt_eq, gm1, om_some, rCells_cells, need_ble (by omega)]; exact (loadN_ofT (by show 0 + 12 ≤ 13; omega)).trans rfl
      simp (maxSteps := 2000000) (disch := first | omega | assumption) only [↓mCode, ↓mOps, mAll, seval, vPtr, ite_ne, wrap_i64, boundN_int, fn12, Tryz.f12, r0, r1, r5, r6, c1', c2', ↓b0]
      refine (size52_ok (p := zP)).call e0_hook e0_subs ?_
      rintro _ h2 n2 ⟨rfl, G2⟩
      have G02 := G.trans G2
      simp (maxSteps := 2000000) (disch := first | omega | assumption) only [↓mCode, ↓mOps, mAll, seval, vPtr, ite_ne, wrap_i64, boundN_int, fn12, Tryz.f12, r0, r1, r5, r6, szz]
      refine W_loopE (fun q rg h3 n3 => ∃ (j : Nat) (z : Int), q = body.length - j ∧ j ≤ body.length ∧ j ≤ 201 ∧ rg.get 0 = some (.slice m 0 1 true 1 1) ∧ rg.get 1 = some (.int .i64 1) ∧ rg.get 5 = some (.int .i64 z) ∧ rg.get 6 = some (.int .i64 0) ∧ rg.get 7 = some (.int .i64 (j : Int)) ∧
          1 ≤ z ∧ z ≤ 1 + j * 600000 ∧ (∀ a, a < j → (szL (body.getD a zLit) : Int) ≤ z) ∧ Gro h n h3 n3)
        (fun rg h3 n3 => ∃ z : Int, rg.get 0 = some (.slice m 0 1 true 1 1) ∧ rg.get 1 = some (.int .i64 1) ∧ rg.get 5 = some (.int .i64 z) ∧ rg.get 6 = some (.int .i64 0) ∧ (body.length ≤ 200 → ∀ a, a < body.length → (szL (body.getD a zLit) : Int) ≤ z) ∧ Gro h n h3 n3)
        _ ⟨0, 1, rfl, by omega, by omega, ?_, ?_, ?_, ?_, ?_, by omega, by omega, fun a ha => absurd ha (by omega), G02⟩ ?_ ?_
      iterate 5
        · simp only [mBase, Nat.reduceEqDiff, Nat.reduceSub, reduceIte, r0, r1, r6] <;> rfl
      · rintro t3 hexit2 q rg h3 n3 ⟨j, z, rfl, hj, hj2, s0, s1, s5, s6, s7, hz1, hz2, hsz, G3⟩ IH2
        have gm3 : h3.get m = some (.cells (ofT (ruleC vb)) 13 13) := by rw [G3.2 m hm]; exact hg
        have b12 : ∀ {kk : V → Out}, cellAt h3 m 12 kk = kk vb := fun {kk} => cell_of gm3 (by omega) rfl
        by_cases d1 : j < body.length
        · have d1' : ((j : Int) < (body.length : Int)) = True := eq_true (by omega)
          by_cases d2 : j ≤ 200
          · have d2' : ((j : Int) ≤ 200) = True := eq_true (by omega)
            obtain ⟨id, off, ex, k, lo, hvb, hlo, hid, La⟩ := (Rb.ext G3).get d1
            rw [hvb] at b12
            have lenB' := @lenB
            rw [hvb] at lenB'
            generalize hx : body.getD j zLit = x at *
            have cX : ∀ {kk : List V → Out}, cellsAt h3 id (off + j * 21) 21 kk = kk (litC x) := fun {kk} => (La.cells (p := 0) (m := 21) (by omega) rfl).trans rfl
            have GX : ∀ o o' : O, Gro h3 n3 ((h3.put n3 (some o)).put n3 (some o')) (n3 + 1) := fun o o' => ((Gro.refl h3 n3).put _).set (Nat.le_refl _) _
            have hb1 : szP x.2.1 ≤ 300000 := by have a := szS_le (s := x.2.1.1); have b := szS_le (s := x.2.1.2.1); have c := szS_le (s := x.2.1.2.2); unfold szP; omega
            have hb2 : szP (x.2.2.1, x.2.2.2, zS) ≤ 300000 := by have a := szS_le (s := x.2.2.1); have b := szS_le (s := x.2.2.2); have c := szS_le (s := zS); unfold szP; dsimp only; omega
            simp (maxSteps := 2000000) (disch := first | omega | assumption) only [↓mCode, ↓mOps, mAll, seval, vPtr, ite_ne, wrap_i64, boundN_int, fn12, Tryz.f12, mLit, mLay, ↓lay_0, s0, s1, s5, s6, s7, d1', d2', b12, lenB', ↓cX]
            refine W_draw sr12_10 ss12_10 ?_ ?_
            · exact sk12_10
            simp (maxSteps := 2000000) (disch := first | omega | assumption) only [↓mCode, ↓mOps, mAll, seval, vPtr, ite_ne, wrap_i64, boundN_int, fn12, Tryz.f12, mLit, mLay, lay_P12, slotC, buildIn_array, s0, s1, s5, s6, s7]
            refine (size52_ok (p := x.2.1)).call e0_hook e0_subs ?_
            rintro _ h4 n4 ⟨rfl, G4⟩
            have L4 : LitAt h4 n3 0 x := (LitAt.lay (by rw [T.get_put, if_pos rfl]) (by omega)).keep (G4.2 n3 (by omega))
            have cA : ∀ {kk : List V → Out}, cellsAt h4 n3 13 4 kk = kk (slotC x.2.2.1) := fun {kk} => (L4.cells (p := 13) (m := 4) (by omega) (by omega)).trans rfl
            have cB : ∀ {kk : List V → Out}, cellsAt h4 n3 17 4 kk = kk (slotC x.2.2.2) := fun {kk} => (L4.cells (p := 17) (m := 4) (by omega) (by omega)).trans rfl
            simp (maxSteps := 2000000) (disch := first | omega | assumption) only [↓mCode, ↓mOps, mAll, seval, vPtr, ite_ne, wrap_i64, boundN_int, fn12, Tryz.f12, mLit, slotC, buildIn_array, same4, same12, s0, s1, s5, s6, s7, ↓cA, ↓cB]
            refine (size52_ok (p := (x.2.2.1, x.2.2.2, zS))).call e0_hook e0_subs ?_
            rintro _ h5 n5 ⟨rfl, G5⟩
            simp (maxSteps := 2000000) (disch := first | omega | assumption) only [↓mCode, ↓mOps, mAll, seval, vPtr, ite_ne, wrap_i64, boundN_int, fn12, Tryz.f12, s0, s1, s5, s6, s7]
            refine IH2 (body.length - (j + 1)) _ _ _ (by omega) ⟨j + 1, z + (szP x.2.1 : Int) + (szP (x.2.2.1, x.2.2.2, zS) : Int), rfl, by omega, by omega, ?_, ?_, ?_, ?_, ?_, by omega, by omega, fun a ha => ?_, G3.trans (((GX _ _).trans G4).trans G5)⟩
            iterate 5
              · simp only [mBase, Nat.reduceEqDiff, Nat.reduceSub, reduceIte, s0, s1, s5, s6, s7] <;> rfl
            · by_cases e : a = j
              · subst e; rw [hx]; unfold szL; omega
              · have := hsz a (by omega); omega
          · have d2' : ((j : Int) ≤ 200) = False := eq_false (by omega)
            simp (maxSteps := 2000000) (disch := first | omega | assumption) only [↓mCode, ↓mOps, mAll, seval, vPtr, ite_ne, wrap_i64, boundN_int, fn12, Tryz.f12, s0, s1, s5, s6, s7, d1', d2', b12, lenB]
            exact hexit2 _ _ _ ⟨z, by simp only [mBase, Nat.reduceEqDiff, Nat.reduceSub, reduceIte, s0], by simp only [mBase, Nat.reduceEqDiff, Nat.reduceSub, reduceIte, s1], by simp only [mBase, Nat.reduceEqDiff, Nat.reduceSub, reduceIte, s5], by simp only [mBase, Nat.reduceEqDiff, Nat.reduceSub, reduceIte, s6], fun q => absurd q (by omega), G3⟩
        · have d1' : ((j : Int) < (body.length : Int)) = False := eq_false (by omega)
          simp (maxSteps := 2000000) (disch := first | omega | assumption) only [↓mCode, ↓mOps, mAll, seval, vPtr, ite_ne, wrap_i64, boundN_int, fn12, Tryz.f12, s0, s1, s5, s6, s7, d1', b12, lenB]
          exact hexit2 _ _ _ ⟨z, by simp only [mBase, Nat.reduceEqDiff, Nat.reduceSub, reduceIte, s0], by simp only [mBase, Nat.reduceEqDiff, Nat.reduceSub, reduceIte, s1], by simp only [mBase, Nat.reduceEqDiff, Nat.reduceSub, reduceIte, s5], by simp only [mBase, Nat.reduceEqDiff, Nat.reduceSub, reduceIte, s6], fun _ a ha => hsz a (by omega), G3⟩
      · rintro rg h3 n3 ⟨z, s0, s1, s5, s6, hsz, G3⟩
        have gm3 : h3.get m = some (.cells (ofT (ruleC vb)) 13 13) := by rw [G3.2 m hm]; exact hg
        have b12 : ∀ {kk : V → Out}, cellAt h3 m 12 kk = kk vb := fun {kk} => cell_of gm3 (by omega) rfl
        by_cases e1 : 30000 < z
        · have e1' : ((30000 : Int) < z) = True := eq_true e1
          simp (maxSteps := 2000000) (disch := first | omega | assumption) only [↓mCode, ↓mOps, mAll, seval, vPtr, ite_ne, wrap_i64, boundN_int, fn12, Tryz.f12, s0, s1, s5, s6, e1', decide_true, b12, lenB]
          exact K _ _ _ ⟨⟨true, rfl, fun q => by cases q⟩, G3⟩
        · have e1' : ((30000 : Int) < z) = False := eq_false e1
          by_cases e2 : 200 < body.length
          · have e2' : ((200 : Int) < (body.length : Int)) = True := eq_true (by omega)
            simp (maxSteps := 2000000) (disch := first | omega | assumption) only [↓mCode, ↓mOps, mAll, seval, vPtr, ite_ne, wrap_i64, boundN_int, fn12, Tryz.f12, s0, s1, s5, s6, e1', e2', decide_true, decide_false, b12, lenB]
            exact K _ _ _ ⟨⟨true, rfl, fun q => by cases q⟩, G3⟩
          · have e2' : ((200 : Int) < (body.length : Int)) = False := eq_false (by omega)
            simp (maxSteps := 2000000) (disch := first | omega | assumption) only [↓mCode, ↓mOps, mAll, seval, vPtr, ite_ne, wrap_i64, boundN_int, fn12, Tryz.f12, s0, s1, s5, s6, e1', e2', decide_true, decide_false, b12, lenB]
            refine IH 0 _ _ _ (by omega) ⟨1, z, rfl, by omega, ?_, ?_, ?_, ?_, fun q => absurd q (by omega), fun _ a ha => ?_, G3⟩
            iterate 4
              · simp only [mBase, Nat.reduceEqDiff, Nat.reduceSub, reduceIte, s0, s1, s5, s6] <;> rfl
            · have := hsz (by omega) a ha; omega
    · have c1' : ((((1 : Nat) : Int)) < 1) = False := eq_false (by omega)
      simp (maxSteps := 2000000) (disch := first | omega | assumption) only [↓mCode, ↓mOps, mAll, seval, vPtr, ite_ne, wrap_i64, boundN_int, fn12, Tryz.f12, r0, r1, r5, r6, c1']
      exact hexit _ _ _ ⟨by simp only [mBase, Nat.reduceEqDiff, Nat.reduceSub, reduceIte, r0], by simp only [mBase, Nat.reduceEqDiff, Nat.reduceSub, reduceIte, r1], z1 rfl, G⟩
  · rintro regs h1 n1 ⟨r0, r1, hsz, G⟩
    simp (maxSteps := 2000000) (disch := first | omega | assumption) only [↓mCode, ↓mOps, mAll, seval, vPtr, ite_ne, wrap_i64, boundN_int, fn12, Tryz.f12, r0, r1]
    exact K _ _ _ ⟨⟨_, rfl, fun _ => hsz⟩, G⟩

theorem sl_one {h : T O} {e : Nat} {g : Nat → V} {v : V} {L : Nat} (S : Sl h e g v L) : oneV v = true := by
  cases S <;> rfl
theorem minE9 {L : Nat} : (if (9001 : Int) < (L : Int) then (9001 : Int) else (L : Int)) = ((min L 9001 : Nat) : Int) := by
  split <;> omega

theorem much16_ok {h : T O} {n : Nat} {vv vb : V} {ask dist : Bool} {vars : List (List Nat)} {body : List LitT} (Rv : StrIn h n vv vars) (Rb : LitIn h n vb body) :
    Fn env0 4 [.agg [.bool ask, .bool dist, vv, vb]] h n (fun v h' n' => (∃ b, v = .bool b ∧ (b = false → ∀ i, i < body.length → szL (body.getD i zLit) ≤ 30000)) ∧ Gro h n h' n') := by
  refine Fn.mk fn4 rfl fz4 (by simp) fun Q cs K => ?_
  have lenV : ∀ {hh : T O} {e : Nat} {k : V → Out}, lenIn hh (.slice e) vv k = k (.int .i64 (vars.length : Int)) := Rv.1.lenA
  generalize hhB : h.put n (some (.cells (ofT [V.bool ask, V.bool dist, vv, vb]) 4 4)) = hB
  have GB : Gro h n hB (n + 1) := by rw [← hhB]; exact (Gro.refl h n).put _
  have gn : hB.get n = some (.cells (ofT [V.bool ask, V.bool dist, vv, vb]) 4 4) := by rw [← hhB, T.get_put, if_pos rfl]
  have f2 : ∀ {kk : V → Out}, cellAt hB n 2 kk = kk vv := fun {kk} => cell_of gn (by omega) rfl
  have f3 : ∀ {kk : V → Out}, cellAt hB n 3 kk = kk vb := fun {kk} => cell_of gn (by omega) rfl
  simp (maxSteps := 2000000) (disch := first | omega | assumption) only [↓mCode, ↓mOps, mAll, seval, vPtr, ite_ne, wrap_i64, boundN_int, fn4, Tryz.f4, hhB]
  refine W_loopE (fun q regs h1 n1 => ∃ (i : Nat) (z : Int), q = vars.length - i ∧ i ≤ vars.length ∧ i ≤ 201 ∧ regs.get 1 = some (.ptr n 0) ∧ regs.get 3 = some (.int .i64 z) ∧ regs.get 4 = some (.int .i64 (i : Int)) ∧ 0 ≤ z ∧ z ≤ i * 9001 ∧ h1 = hB ∧ n1 = n + 1)
    (fun regs h1 n1 => ∃ z : Int, regs.get 1 = some (.ptr n 0) ∧ regs.get 3 = some (.int .i64 z) ∧ h1 = hB ∧ n1 = n + 1)
    _ ⟨0, 0, rfl, by omega, by omega, ?_, ?_, ?_, by omega, by omega, rfl, rfl⟩ ?_ ?_
  iterate 3
    · simp only [mBase, Nat.reduceEqDiff, Nat.reduceSub, reduceIte] <;> rfl
  · rintro tt hexit q regs h1 n1 ⟨i, z, rfl, hi, hi2, r1, r3, r4, hz0, hz1, rfl, rfl⟩ IH
    by_cases c1 : i < vars.length
    · have c1' : ((i : Int) < (vars.length : Int)) = True := eq_true (by omega)
      by_cases c2 : i ≤ 200
      · have c2' : ((i : Int) ≤ 200) = True := eq_true (by omega)
        obtain ⟨id, off, ex, k, lo, hvv, hlo, hc⟩ := (Rv.ext GB).1.get1 c1
        have lenV' := @lenV
        rw [hvv] at f2 lenV'
        simp (maxSteps := 2000000) (disch := first | omega | assumption) only [↓mCode, ↓mOps, mAll, seval, vPtr, ite_ne, wrap_i64, boundN_int, fn4, Tryz.f4, r1, r3, r4, f2, lenV', c1', c2', ↓hc, minE9]
        refine IH (vars.length - (i + 1)) _ _ _ (by omega) ⟨i + 1, z + ((min (vars.getD i []).length 9001 : Nat) : Int), rfl, by omega, by omega, ?_, ?_, ?_, by omega, by omega, rfl, rfl⟩
        iterate 3
          · simp only [mBase, Nat.reduceEqDiff, Nat.reduceSub, reduceIte, r1, r3, r4] <;> rfl
      · have c2' : ((i : Int) ≤ 200) = False := eq_false (by omega)
        simp (maxSteps := 2000000) (disch := first | omega | assumption) only [↓mCode, ↓mOps, mAll, seval, vPtr, ite_ne, wrap_i64, boundN_int, fn4, Tryz.f4, r1, r3, r4, f2, lenV, c1', c2']
        exact hexit _ _ _ ⟨z, by simp only [mBase, Nat.reduceEqDiff, Nat.reduceSub, reduceIte, r1], by simp only [mBase, Nat.reduceEqDiff, Nat.reduceSub, reduceIte, r3], rfl, rfl⟩
    · have c1' : ((i : Int) < (vars.length : Int)) = False := eq_false (by omega)
      simp (maxSteps := 2000000) (disch := first | omega | assumption) only [↓mCode, ↓mOps, mAll, seval, vPtr, ite_ne, wrap_i64, boundN_int, fn4, Tryz.f4, r1, r3, r4, f2, lenV, c1']
      exact hexit _ _ _ ⟨z, by simp only [mBase, Nat.reduceEqDiff, Nat.reduceSub, reduceIte, r1], by simp only [mBase, Nat.reduceEqDiff, Nat.reduceSub, reduceIte, r3], rfl, rfl⟩
  · rintro regs h1 n1 ⟨z, r1, r3, rfl, rfl⟩
    by_cases e1 : 200 < vars.length
    · have e1' : ((200 : Int) < (vars.length : Int)) = True := eq_true (by omega)
      simp (maxSteps := 2000000) (disch := first | omega | assumption) only [↓mCode, ↓mOps, mAll, seval, vPtr, ite_ne, wrap_i64, boundN_int, fn4, Tryz.f4, r1, r3, f2, f3, lenV, e1', decide_true, decide_false]
      exact K _ _ _ ⟨⟨true, rfl, fun q => by cases q⟩, GB⟩
    have e1' : ((200 : Int) < (vars.length : Int)) = False := eq_false (by omega)
    by_cases e2 : 9000 < z
    · have e2' : ((9000 : Int) < z) = True := eq_true e2
      simp (maxSteps := 2000000) (disch := first | omega | assumption) only [↓mCode, ↓mOps, mAll, seval, vPtr, ite_ne, wrap_i64, boundN_int, fn4, Tryz.f4, r1, r3, f2, f3, lenV, e1', e2', decide_true, decide_false]
      exact K _ _ _ ⟨⟨true, rfl, fun q => by cases q⟩, GB⟩
    have e2' : ((9000 : Int) < z) = False := eq_false e2
    have o1 : cellsOf vb = [vb] := cellsOf_one (sl_one Rb.1)
    simp (maxSteps := 2000000) (disch := first | omega | assumption) only [↓mCode, ↓mOps, mAll, seval, vPtr, ite_ne, wrap_i64, boundN_int, fn4, Tryz.f4, r1, r3, f2, f3, lenV, e1', e2', decide_true, decide_false, o1]
    refine (much35_ok (Rb.ext (GB.put _)) (by rw [T.get_put, if_pos rfl]; unfold ruleC; rfl) (Nat.lt_succ_self _)).call e0_hook e0_subs ?_
    rintro _ h2 n2 ⟨⟨b, rfl, hb⟩, G2⟩
    simp (maxSteps := 2000000) (disch := first | omega | assumption) only [↓mCode, ↓mOps, mAll, seval, vPtr, ite_ne, wrap_i64, boundN_int, fn4, Tryz.f4, r1, r3, f2, f3, lenV, e1', e2']
    exact K _ _ _ ⟨⟨b, rfl, hb⟩, (GB.put _).trans G2⟩
end Go.Mir
