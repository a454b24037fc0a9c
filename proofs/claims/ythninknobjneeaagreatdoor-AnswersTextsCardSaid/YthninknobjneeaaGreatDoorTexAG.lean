/- Walks: the variables of parts (the reference). -/
import Derived.Test.YthninknobjneeaaGreatDoorTexAF
set_option linter.unusedSimpArgs false
set_option linter.unusedVariables false
namespace Go.Mir
open Go Go.Proofs
set_option maxRecDepth 4000
set_option maxHeartbeats 32000000

/-- a row of slots of the run's own making, as far as its variables -/
def WAt (h : T O) (m : Nat) (ws : List (List Nat)) : Prop := ∃ t M e, h.get m = some (.cells t M e) ∧ ws.length * 4 ≤ M ∧ ∀ j, j < ws.length → t.get (j * 4) = some (.str (ws.getD j []))
theorem WAt.keep {h h' : T O} {m : Nat} {ws : List (List Nat)} (A : WAt h m ws) (e : h'.get m = h.get m) : WAt h' m ws := by
  obtain ⟨t, M, e', h1, h2⟩ := A
  exact ⟨t, M, e', e.trans h1, h2⟩
theorem WAt.cell {h : T O} {m : Nat} {ws : List (List Nat)} (A : WAt h m ws) {j : Nat} (hj : j < ws.length) {kk : V → Out} : cellAt h m (j * 4) kk = kk (.str (ws.getD j [])) := by
  obtain ⟨t, M, e, h1, h2, h3⟩ := A
  rw [cellAt_eq, h1, om_some, rCells_cells, need_ble (by omega), h3 j hj, om_some]
theorem take_snocN {ws : List (List Nat)} {j : Nat} (hj : j < ws.length) {l : List (List Nat)} : (ws.take (j + 1)).foldl addS l = addS ((ws.take j).foldl addS l) (ws.getD j []) := by
  rw [List.take_succ_eq_append_getElem hj, List.foldl_append, List.getD_eq_getElem?_getD, List.getElem?_eq_getElem hj]; rfl

theorem vars02_ok {h : T O} {n : Nat} {v : V} {l : List LitT} (R : LitIn h n v l) (hl : l.length ≤ 1000) : Fn env0 37 [v] h n (fun u h' n' => SBuf h' n' n u (varsL l) ∧ Gro h n h' n') := by
  refine Fn.mk fn37 rfl fz37 (by simp) fun Q cs K => ?_
  have len : ∀ {hh : T O} {e : Nat} {k : V → Out}, lenIn hh (.slice e) v k = k (.int .i64 (l.length : Int)) := fun {hh e k} => by
    have S := R.1
    generalize l.length = L at S
    cases S with
    | nil => exact lenIn_nil
    | tail => exact lenIn_tail
    | slice => exact lenIn_slice
  simp (maxSteps := 2000000) (disch := first | omega | assumption) only [↓mCode, ↓mOps, mAll, seval, vPtr, ite_ne, wrap_i64, boundN_int, fn37, Tryz.f37, List.map_nil, decide_true, decide_false, Bool.not_true, Bool.not_false]
  refine W_loopE (fun q regs h1 n1 => ∃ (i : Nat) (u : V), q = l.length - i ∧ i ≤ l.length ∧ regs.get 0 = some v ∧ regs.get 3 = some u ∧ regs.get 4 = some (.int .i64 (i : Int)) ∧ SBuf h1 n1 n u (varsL (l.take i)) ∧ Gro h n h1 n1)
    (fun regs h1 n1 => ∃ (u : V), regs.get 3 = some u ∧ SBuf h1 n1 n u (varsL l) ∧ Gro h n h1 n1)
    _ ⟨0, .base (.slice none 0 0), rfl, by omega, ?_, ?_, ?_, SBuf.nil (Nat.le_refl _), Gro.refl h n⟩ ?_ ?_
  iterate 3
    · simp only [mBase, Nat.reduceEqDiff, Nat.reduceSub, reduceIte] <;> rfl
  · rintro tt hexit q regs h1 n1 ⟨i, u, rfl, hi, r0, r3, r4, B, G⟩ IH
    by_cases c1 : i < l.length
    · have c1' : ((i : Int) < (l.length : Int)) = True := eq_true (by omega)
      have R1 := R.ext G
      have vs := varsL_snoc c1
      have vl := varsL_len hi
      obtain ⟨id, off, ex, k, lo, rfl, hlo, hid0, L⟩ := R1.get c1
      have hid : id < n := R.2 id rfl
      generalize l.getD i zLit = x at *
      have ne1 : (id = n1) = False := eq_false (by have := B.1; omega)
      have ne2 : (id = n1 + 1) = False := eq_false (by have := B.1; omega)
      have cA : ∀ {kk : List V → Out}, cellsAt h1 id (off + i * 21 + 13) 4 kk = kk (slotC x.2.2.1) := fun {kk} => (L.cells (p := 13) (m := 4) (by omega) rfl).trans rfl
      have cB : ∀ {kk : List V → Out}, cellsAt h1 id (off + i * 21 + 17) 4 kk = kk (slotC x.2.2.2) := fun {kk} => (L.cells (p := 17) (m := 4) (by omega) rfl).trans rfl
      have c0 : ∀ {kk : List V → Out}, cellsAt h1 id (off + i * 21 + 1) 4 kk = kk (slotC x.2.1.1) := fun {kk} => (L.cells (p := 1) (m := 4) (by omega) rfl).trans rfl
      have c4 : ∀ {kk : List V → Out}, cellsAt h1 id (off + i * 21 + 1 + 4) 4 kk = kk (slotC x.2.1.2.1) := fun {kk} => (L.cells (p := 5) (m := 4) (by omega) (by omega)).trans rfl
      have c8 : ∀ {kk : List V → Out}, cellsAt h1 id (off + i * 21 + 1 + 8) 4 kk = kk (slotC x.2.1.2.2) := fun {kk} => (L.cells (p := 9) (m := 4) (by omega) (by omega)).trans rfl
      have cK : ∀ {kk : V → Out}, cellAt h1 id (off + i * 21) kk = kk (.int .i64 x.1) := fun {kk} => L.cell (p := 0) (by omega) rfl rfl
      refine' (fun inner : (∀ (rg : T V) (hh : T O) (nn m : Nat) (ws : List (List Nat)), rg.get 0 = some (.slice id off l.length ex k lo) → rg.get 3 = some u → rg.get 4 = some (.int .i64 (i : Int)) → rg.get 5 = some (.slice m 0 ws.length true ws.length ws.length) → rg.get 6 = some (.int .i64 ((0 : Nat) : Int)) →
        ws = varsOf x → ws.length ≤ 3 → Gro h n hh nn → SBuf hh nn n u (varsL (l.take i)) → WAt hh m ws → vid u ≠ some m → m < nn → W env0 Q (fun go => go ⟨37, 88, [], none⟩ rg _ cs hh nn)) => ?_) ?_
      rotate_left
      · simp (maxSteps := 2000000) (disch := first | omega | assumption) only [↓mCode, ↓mOps, mAll, seval, vPtr, ite_ne, wrap_i64, boundN_int, fn37, Tryz.f37, List.map_nil, decide_true, decide_false, Bool.not_true, Bool.not_false, r0, r3, r4, c1', len]
        refine W_draw sr37_5 ss37_5 ?_ ?_
        · exact sk37_5
        by_cases k1 : x.1 = 1
        · have q1 : (x.1 = 1) = True := eq_true k1
          have vx : varsOf x = [x.2.1.1.1, x.2.1.2.1.1, x.2.1.2.2.1] := by unfold varsOf slotsOf; rw [if_pos (by omega)]; rfl
          simp (maxSteps := 2000000) (disch := first | omega | assumption) only [↓mCode, ↓mOps, mAll, seval, vPtr, ite_ne, wrap_i64, boundN_int, fn37, Tryz.f37, List.map_nil, decide_true, decide_false, Bool.not_true, Bool.not_false, slotC, r0, r3, r4, len, ↓cA, ↓cB, ↓cK, ne1, q1]
          refine W_draw sr37_7 ss37_7 ?_ ?_
          · exact sk37_7
          simp (maxSteps := 2000000) (disch := first | omega | assumption) only [↓mCode, ↓mOps, mAll, seval, vPtr, ite_ne, wrap_i64, boundN_int, fn37, Tryz.f37, List.map_nil, decide_true, decide_false, Bool.not_true, Bool.not_false, slotC, r0, r3, r4, len, ↓c0, ↓c4, ↓c8, ne1, q1]
          refine inner _ _ _ (n1 + 1) [x.2.1.1.1, x.2.1.2.1.1, x.2.1.2.2.1] ?_ ?_ ?_ ?_ ?_ vx.symm (by simp) ((G.put _).put _) (B.ext (((Gro.refl h1 n1).put _).put _)) ⟨_, 12, 4, by rw [T.get_put, if_pos rfl], by simp only [List.length_cons, List.length_nil]; omega, fun j hj => ?_⟩ (fun q => by have := (B.vid0 q).2; omega) (by omega)
          iterate 5
            · simp only [mBase, Nat.reduceEqDiff, Nat.reduceSub, reduceIte, r0, r3, r4] <;> rfl
          · simp only [List.length_cons, List.length_nil] at hj
            rw [ofT_get]
            rcases (by omega : j = 0 ∨ j = 1 ∨ j = 2) with rfl | rfl | rfl <;> rfl
        have q1 : (x.1 = 1) = False := eq_false k1
        by_cases k2 : x.1 = 2
        · have q2 : (x.1 = 2) = True := eq_true k2
          have vx : varsOf x = [x.2.1.1.1, x.2.1.2.1.1, x.2.1.2.2.1] := by unfold varsOf slotsOf; rw [if_pos (by omega)]; rfl
          simp (maxSteps := 2000000) (disch := first | omega | assumption) only [↓mCode, ↓mOps, mAll, seval, vPtr, ite_ne, wrap_i64, boundN_int, fn37, Tryz.f37, List.map_nil, decide_true, decide_false, Bool.not_true, Bool.not_false, slotC, r0, r3, r4, len, ↓cA, ↓cB, ↓cK, ne1, q1, q2]
          refine W_draw sr37_7 ss37_7 ?_ ?_
          · exact sk37_7
          simp (maxSteps := 2000000) (disch := first | omega | assumption) only [↓mCode, ↓mOps, mAll, seval, vPtr, ite_ne, wrap_i64, boundN_int, fn37, Tryz.f37, List.map_nil, decide_true, decide_false, Bool.not_true, Bool.not_false, slotC, r0, r3, r4, len, ↓c0, ↓c4, ↓c8, ne1, q1, q2]
          refine inner _ _ _ (n1 + 1) [x.2.1.1.1, x.2.1.2.1.1, x.2.1.2.2.1] ?_ ?_ ?_ ?_ ?_ vx.symm (by simp) ((G.put _).put _) (B.ext (((Gro.refl h1 n1).put _).put _)) ⟨_, 12, 4, by rw [T.get_put, if_pos rfl], by simp only [List.length_cons, List.length_nil]; omega, fun j hj => ?_⟩ (fun q => by have := (B.vid0 q).2; omega) (by omega)
          iterate 5
            · simp only [mBase, Nat.reduceEqDiff, Nat.reduceSub, reduceIte, r0, r3, r4] <;> rfl
          · simp only [List.length_cons, List.length_nil] at hj
            rw [ofT_get]
            rcases (by omega : j = 0 ∨ j = 1 ∨ j = 2) with rfl | rfl | rfl <;> rfl
        have q2 : (x.1 = 2) = False := eq_false k2
        have vx : varsOf x = [x.2.2.1.1, x.2.2.2.1] := by unfold varsOf slotsOf; rw [if_neg (by omega)]; rfl
        simp (maxSteps := 2000000) (disch := first | omega | assumption) only [↓mCode, ↓mOps, mAll, seval, vPtr, ite_ne, wrap_i64, boundN_int, fn37, Tryz.f37, List.map_nil, decide_true, decide_false, Bool.not_true, Bool.not_false, slotC, r0, r3, r4, len, ↓cA, ↓cB, ↓cK, ne1, q1, q2]
        refine inner _ _ _ n1 [x.2.2.1.1, x.2.2.2.1] ?_ ?_ ?_ ?_ ?_ vx.symm (by simp) (G.put _) (B.ext ((Gro.refl h1 n1).put _)) ⟨_, 8, 4, by rw [T.get_put, if_pos rfl], by simp only [List.length_cons, List.length_nil]; omega, fun j hj => ?_⟩ (fun q => by have := (B.vid0 q).2; omega) (by omega)
        iterate 5
          · simp only [mBase, Nat.reduceEqDiff, Nat.reduceSub, reduceIte, r0, r3, r4] <;> rfl
        · simp only [List.length_cons, List.length_nil] at hj
          rw [ofT_get]
          rcases (by omega : j = 0 ∨ j = 1) with rfl | rfl <;> rfl
      · intro rg0 hh nn m ws b0 b3 b4 b5 b6 hws hw3 G' B' A' w' hm
        refine W_loopE (fun q rg h2 n2 => ∃ (j : Nat) (u2 : V), q = ws.length - j ∧ j ≤ ws.length ∧ rg.get 0 = some (.slice id off l.length ex k lo) ∧ rg.get 3 = some u2 ∧ rg.get 4 = some (.int .i64 (i : Int)) ∧ rg.get 5 = some (.slice m 0 ws.length true ws.length ws.length) ∧ rg.get 6 = some (.int .i64 (j : Int)) ∧
            SBuf h2 n2 n u2 ((ws.take j).foldl addS (varsL (l.take i))) ∧ WAt h2 m ws ∧ vid u2 ≠ some m ∧ m < n2 ∧ Gro h n h2 n2)
          (fun rg h2 n2 => ∃ u2 : V, rg.get 0 = some (.slice id off l.length ex k lo) ∧ rg.get 3 = some u2 ∧ rg.get 4 = some (.int .i64 (i : Int)) ∧ SBuf h2 n2 n u2 (ws.foldl addS (varsL (l.take i))) ∧ Gro h n h2 n2)
          _ ⟨0, u, rfl, by omega, b0, b3, b4, b5, b6, B', A', w', hm, G'⟩ ?_ ?_
        · rintro t3 hexit2 q rg h2 n2 ⟨j, u2, rfl, hj, s0, s3, s4, s5, s6, B2, A2, w2, hm2, G2⟩ IH2
          have fl := foldS_len (ws := ws.take j) (l := varsL (l.take i))
          have tl : (ws.take j).length ≤ 3 := by rw [List.length_take]; omega
          by_cases d1 : j < ws.length
          · have d1' : ((j : Int) < (ws.length : Int)) = True := eq_true (by omega)
            have ts := take_snocN (ws := ws) (j := j) d1 (l := varsL (l.take i))
            have cw : ∀ {kk : V → Out}, cellAt h2 m (j * 4) kk = kk (.str (ws.getD j [])) := A2.cell d1
            generalize ws.getD j [] = w at *
            generalize hY : (ws.take j).foldl addS (varsL (l.take i)) = Y at *
            by_cases z : w = []
            · have z' : (w ≠ []) = False := eq_false fun q => q z
              simp (maxSteps := 2000000) (disch := first | omega | assumption) only [↓mCode, ↓mOps, mAll, seval, vPtr, ite_ne, wrap_i64, boundN_int, fn37, Tryz.f37, List.map_nil, decide_true, decide_false, Bool.not_true, Bool.not_false, s0, s3, s4, s5, s6, d1', ↓cw, z']
              refine IH2 (ws.length - (j + 1)) _ _ _ (by omega) ⟨j + 1, u2, rfl, by omega, ?_, ?_, ?_, ?_, ?_, by rw [ts, show addS Y w = Y from if_neg fun q => q.1 z]; exact B2, A2, w2, hm2, G2⟩
              iterate 5
                · simp only [mBase, Nat.reduceEqDiff, Nat.reduceSub, reduceIte, s0, s3, s4, s5, s6] <;> rfl
            have z' : (w ≠ []) = True := eq_true z
            simp (maxSteps := 2000000) (disch := first | omega | assumption) only [↓mCode, ↓mOps, mAll, seval, vPtr, ite_ne, wrap_i64, boundN_int, fn37, Tryz.f37, List.map_nil, decide_true, decide_false, Bool.not_true, Bool.not_false, s0, s3, s4, s5, s6, d1', ↓cw, z']
            refine (in101_ok B2.sl (by omega)).call e0_hook e0_subs ?_
            rintro _ h3 n3 ⟨rfl, rfl, rfl⟩
            by_cases y : w ∈ Y
            · have y' : (w ∈ Y) = True := eq_true y
              simp (maxSteps := 2000000) (disch := first | omega | assumption) only [↓mCode, ↓mOps, mAll, seval, vPtr, ite_ne, wrap_i64, boundN_int, fn37, Tryz.f37, List.map_nil, decide_true, decide_false, Bool.not_true, Bool.not_false, s0, s3, s4, s5, s6, d1', ↓cw, y']
              refine IH2 (ws.length - (j + 1)) _ _ _ (by omega) ⟨j + 1, u2, rfl, by omega, ?_, ?_, ?_, ?_, ?_, by rw [ts, show addS Y w = Y from if_neg fun q => q.2 y]; exact B2, A2, w2, hm2, G2⟩
              iterate 5
                · simp only [mBase, Nat.reduceEqDiff, Nat.reduceSub, reduceIte, s0, s3, s4, s5, s6] <;> rfl
            have y' : (w ∈ Y) = False := eq_false y
            obtain ⟨v4, h4, ap, B4, k4, k5, hv4⟩ := B2.app (x := w) (by omega)
            simp (maxSteps := 2000000) (disch := first | omega | assumption) only [↓mCode, ↓mOps, mAll, seval, vPtr, ite_ne, wrap_i64, boundN_int, fn37, Tryz.f37, List.map_nil, decide_true, decide_false, Bool.not_true, Bool.not_false, s0, s3, s4, s5, s6, d1', ↓cw, y', src33, ap]
            refine IH2 (ws.length - (j + 1)) _ _ _ (by omega) ⟨j + 1, v4, rfl, by omega, ?_, ?_, ?_, ?_, ?_, by rw [ts, show addS Y w = Y ++ [w] from if_pos ⟨z, y⟩]; exact B4, A2.keep (k5 _ hm2 w2), by rw [hv4]; intro q; cases q; omega, by omega, ⟨by have := G2.1; omega, fun a ha => by rw [k4 a ha, G2.2 a ha]⟩⟩
            iterate 5
              · simp only [mBase, Nat.reduceEqDiff, Nat.reduceSub, reduceIte, s0, s3, s4, s5, s6] <;> rfl
          · have e : j = ws.length := by omega
            have d1' : ((j : Int) < (ws.length : Int)) = False := eq_false (by omega)
            simp (maxSteps := 2000000) (disch := first | omega | assumption) only [↓mCode, ↓mOps, mAll, seval, vPtr, ite_ne, wrap_i64, boundN_int, fn37, Tryz.f37, List.map_nil, decide_true, decide_false, Bool.not_true, Bool.not_false, s0, s3, s4, s5, s6, d1']
            exact hexit2 _ _ _ ⟨u2, by simp only [mBase, Nat.reduceEqDiff, Nat.reduceSub, reduceIte, s0], by simp only [mBase, Nat.reduceEqDiff, Nat.reduceSub, reduceIte, s3], by simp only [mBase, Nat.reduceEqDiff, Nat.reduceSub, reduceIte, s4], by rwa [e, List.take_length] at B2, G2⟩
        · rintro rg h2 n2 ⟨u2, s0, s3, s4, B2, G2⟩
          simp (maxSteps := 2000000) (disch := first | omega | assumption) only [↓mCode, ↓mOps, mAll, seval, vPtr, ite_ne, wrap_i64, boundN_int, fn37, Tryz.f37, List.map_nil, decide_true, decide_false, Bool.not_true, Bool.not_false, s0, s3, s4]
          refine IH (l.length - (i + 1)) _ _ _ (by omega) ⟨i + 1, u2, rfl, by omega, ?_, ?_, ?_, by rw [vs, ← hws]; exact B2, G2⟩
          iterate 3
            · simp only [mBase, Nat.reduceEqDiff, Nat.reduceSub, reduceIte, s0, s3, s4] <;> rfl
    · have e : i = l.length := by omega
      have c1' : ((i : Int) < (l.length : Int)) = False := eq_false (by omega)
      subst e
      simp (maxSteps := 2000000) (disch := first | omega | assumption) only [↓mCode, ↓mOps, mAll, seval, vPtr, ite_ne, wrap_i64, boundN_int, fn37, Tryz.f37, List.map_nil, decide_true, decide_false, Bool.not_true, Bool.not_false, r0, r3, r4, c1', len]
      exact hexit _ _ _ ⟨u, by simp only [mBase, Nat.reduceEqDiff, Nat.reduceSub, reduceIte, r3], by rwa [List.take_length] at B, G⟩
  · rintro regs h1 n1 ⟨u, r3, B, G⟩
    simp (maxSteps := 2000000) (disch := first | omega | assumption) only [↓mCode, ↓mOps, mAll, seval, vPtr, ite_ne, wrap_i64, boundN_int, fn37, Tryz.f37, List.map_nil, decide_true, decide_false, Bool.not_true, Bool.not_false, r3]
    exact K _ _ _ ⟨B, G⟩
end Go.Mir
