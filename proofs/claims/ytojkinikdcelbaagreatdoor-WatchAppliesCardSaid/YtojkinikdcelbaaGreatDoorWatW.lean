/- Walks: are the rows too many (the reference's Much)? Of any length. -/
import Derived.Test.YtojkinikdcelbaaGreatDoorWatD
import Derived.Test.YtojkinikdcelbaaGreatDoorAnsS
import Derived.Test.YtojkinikdcelbaaGreatDoorHkE
set_option linter.unusedSimpArgs false
set_option linter.unusedVariables false
set_option linter.defProp false
namespace Go.Mir
open Go Go.Proofs Go.Srt
set_option maxRecDepth 4000
set_option maxHeartbeats 8000000

/-- the rows up to one -/
theorem Rows.take {h : T O} {id off kk lo : Nat} {ex : Bool} {ls : List (List Tm)} (R : Rows h (.slice id off ls.length ex kk lo) ls) {j : Nat} (hj : j ≤ ls.length) {kk' lo' : Nat} {ex' : Bool} (hlo : j ≤ lo') : Rows h (.slice id off j ex' kk' lo') (ls.take j) := by
  obtain ⟨g, S, hr⟩ := R
  refine ⟨g, ?_, fun i hi => ?_⟩
  · have e : (ls.take j).length = j := by rw [List.length_take]; omega
    rw [e]
    generalize hL : ls.length = L at S
    cases S with
    | slice _ _ _ _ _ _ h1 C =>
      refine .slice _ _ _ _ _ _ hlo ?_
      have := C.sub (a := 0) (m := j * 1) (by omega)
      simpa using this
  · rw [List.length_take] at hi
    have e : (ls.take j).getD i [] = ls.getD i [] := by
      rw [List.getD_eq_getElem?_getD, List.getElem?_take, if_pos (by omega), List.getD_eq_getElem?_getD]
    rw [e]; exact hr i (by omega)

theorem goesB_t {lg la : List (List Tm)} (h : Goes lg la) : goesB lg la = true := @decide_eq_true _ (Classical.propDecidable _) h
theorem goesB_f {lg la : List (List Tm)} (h : ¬ Goes lg la) : goesB lg la = false := @decide_eq_false _ (Classical.propDecidable _) h

/-- an answer with its news, by the reference -/
theorem apply8_ok {h : T O} {n : Nat} {va vn vg : V} {la ln lg : List (List Tm)} {y y2 : Bool} {z : Int} (ha : RowsIn h n va la) (hn : RowsIn h n vn ln) (hg : RowsIn h n vg lg) (fa : OkRs la) (fn : OkRs ln) (fg : OkRs lg) :
    Fn env1 8 [.agg [.bool y, va], .agg [.int .i64 z, vn, vg, .bool y2]] h n (fun v h' n' => (goesB lg la = false → v = .tuple [.agg [.bool false, .base (.slice none 0 0)], .int .i64 7]) ∧
      (goesB lg la = true → ∃ u, v = .tuple [.agg [.bool y2, u], .int .i64 0] ∧ RowsIn h' n' u ((rem lg la ++ ln).foldl (fun acc x => putR false x acc) [])) ∧ Gro h n h' n') := by
  refine Fn.mk fn8 rfl fz8 (by simp) fun Q cs K => ?_
  have ca : cellsOf va = [va] := cellsOf_one ha.one
  have oa : oneV va = true := ha.one
  have cn : cellsOf vn = [vn] := cellsOf_one hn.one
  have on : oneV vn = true := hn.one
  have cg : cellsOf vg = [vg] := cellsOf_one hg.one
  have og : oneV vg = true := hg.one
  have fa1 := fa.1
  have fn1 := fn.1
  have fg1 := fg.1
  have sa : sameV va va = true := ha.sameV
  have sg : sameV vg vg = true := hg.sameV
  have sn : sameV vn vn = true := hn.sameV
  simp (maxSteps := 2000000) (disch := first | omega | assumption) only [↓mCode, ↓mOps, mAll, seval, vPtr, ite_ne, wrap_i64, boundN_int, e1_tys, e1_fns, fn8, Tryz.f8, ca, oa, cn, on, cg, og]
  generalize hH : ((h.put n (some (O.cells (ofT [V.bool y, va]) 2 2))).put (n + 1) (some (O.cells (ofT [V.int IntKind.i64 z, vn, vg, V.bool y2]) 4 4))).put (n + 1 + 1) (some (O.cells (ofT [V.bool false, V.base (Value.slice none 0 0)]) 2 2)) = H0
  have q0 : H0.get n = some (O.cells (ofT [V.bool y, va]) 2 2) := by rw [← hH, T.get_put, if_neg (by omega), T.get_put, if_neg (by omega), T.get_put, if_pos rfl]
  have q1 : H0.get (n + 1) = some (O.cells (ofT [V.int IntKind.i64 z, vn, vg, V.bool y2]) 4 4) := by rw [← hH, T.get_put, if_neg (by omega), T.get_put, if_pos rfl]
  have q2 : H0.get (n + 1 + 1) = some (O.cells (ofT [V.bool false, V.base (Value.slice none 0 0)]) 2 2) := by rw [← hH, T.get_put, if_pos rfl]
  have G0 : Gro h n H0 (n + 1 + 1 + 1) := by rw [← hH]; exact (((Gro.refl h n).put _).put _).put _
  clear hH
  have lenA : ∀ {v : V} {l : List (List Tm)}, RowsIn h n v l → ∀ {h' : T O} {e : Nat} {k : V → Out}, lenIn h' (.slice e) v k = k (.int .i64 (l.length : Int)) := by
    intro v l ha h' e k
    obtain ⟨g, S, _⟩ := ha.rows
    generalize l.length = L at S ⊢
    cases S with
    | nil => exact lenIn_nil
    | tail => exact lenIn_tail
    | slice => exact lenIn_slice
  have a_len : ∀ {h' : T O} {e : Nat} {k : V → Out}, lenIn h' (.slice e) va k = k (.int .i64 (la.length : Int)) := lenA ha
  have g_len : ∀ {h' : T O} {e : Nat} {k : V → Out}, lenIn h' (.slice e) vg k = k (.int .i64 (lg.length : Int)) := lenA hg
  have cA : ∀ {h' : T O}, h'.get n = some (O.cells (ofT [V.bool y, va]) 2 2) → ∀ {kk : V → Out}, cellAt h' n 1 kk = kk va := fun q => cell_of q (by omega) rfl
  have cG : ∀ {h' : T O}, h'.get (n + 1) = some (O.cells (ofT [V.int IntKind.i64 z, vn, vg, V.bool y2]) 4 4) → ∀ {kk : V → Out}, cellAt h' (n + 1) 2 kk = kk vg := fun q => cell_of q (by omega) rfl
  have cN : ∀ {h' : T O}, h'.get (n + 1) = some (O.cells (ofT [V.int IntKind.i64 z, vn, vg, V.bool y2]) 4 4) → ∀ {kk : V → Out}, cellAt h' (n + 1) 1 kk = kk vn := fun q => cell_of q (by omega) rfl
  have cY : ∀ {h' : T O}, h'.get (n + 1) = some (O.cells (ofT [V.int IntKind.i64 z, vn, vg, V.bool y2]) 4 4) → ∀ {kk : V → Out}, cellAt h' (n + 1) 3 kk = kk (.bool y2) := fun q => cell_of q (by omega) rfl
  have cA0 := @cA H0 q0
  have cG0 := @cG H0 q1
  refine W_loopE (fun m regs h' n' => ∃ (i : Nat), m = lg.length - i ∧ i ≤ lg.length ∧ regs.get 2 = some (.ptr n 0) ∧ regs.get 3 = some (.ptr (n + 1) 0) ∧ regs.get 4 = some (.ptr (n + 1 + 1) 0) ∧ regs.get 6 = some (.int .i64 (i : Int)) ∧
      (∀ j, j < i → cnt lg (lg.getD j []) ≤ cnt la (lg.getD j [])) ∧ h' = H0 ∧ n' = n + 1 + 1 + 1)
    (fun regs h' n' => regs.get 2 = some (.ptr n 0) ∧ regs.get 3 = some (.ptr (n + 1) 0) ∧ regs.get 4 = some (.ptr (n + 1 + 1) 0) ∧ Goes lg la ∧ h' = H0 ∧ n' = n + 1 + 1 + 1)
    _ ⟨0, rfl, by omega, ?_, ?_, ?_, ?_, fun j hj => absurd hj (by omega), rfl, rfl⟩ ?_ ?_
  · simp (maxSteps := 2000000) (disch := first | omega | assumption) only [↓mCode, ↓mOps, mAll, seval, vPtr, ite_ne, wrap_i64, boundN_int, e1_tys]
  · simp (maxSteps := 2000000) (disch := first | omega | assumption) only [↓mCode, ↓mOps, mAll, seval, vPtr, ite_ne, wrap_i64, boundN_int, e1_tys]
  · simp (maxSteps := 2000000) (disch := first | omega | assumption) only [↓mCode, ↓mOps, mAll, seval, vPtr, ite_ne, wrap_i64, boundN_int, e1_tys]
  · simp (maxSteps := 2000000) (disch := first | omega | assumption) only [↓mCode, ↓mOps, mAll, seval, vPtr, ite_ne, wrap_i64, boundN_int, e1_tys] <;> rfl
  · rintro t hexit m regs h' n' ⟨i, e0, hi, r2, r3, r4, r6, hj, rfl, rfl⟩ IH
    by_cases c1 : i < lg.length
    · have c1' : ((i : Int) < (lg.length : Int)) = True := eq_true (by omega)
      obtain ⟨ida, ofa, exa, ka, loa, ra, rfl, hloa, hida, hca, hra⟩ := hg.get c1
      have hca := hca h' (G0.2 ida hida)
      have sr : sameV ra ra = true := sl_same hra.1
      simp (maxSteps := 2000000) (disch := first | omega | assumption) only [↓mCode, ↓mOps, mAll, seval, vPtr, ite_ne, wrap_i64, boundN_int, e1_tys, e1_fns, fn8, Tryz.f8, r2, r3, r4, r6, g_len, c1', cG0]
      refine W_draw sr8_4 ss8_4 ?_ ?_
      · exact sk8_4
      simp (maxSteps := 2000000) (disch := first | omega | assumption) only [↓mCode, ↓mOps, mAll, seval, vPtr, ite_ne, wrap_i64, boundN_int, e1_tys, e1_fns, fn8, Tryz.f8, r2, r3, r4, r6, g_len, c1', cG0, cA0, hca, sa, sg, sr, Nat.mul_one]
      refine (count25_ok (hg.ext G0).rows (hra.ext G0).1 (by omega) fg.small (fg.small i c1)).call rfl e1_subs ?_
      rintro _ _ _ ⟨rfl, rfl, rfl⟩
      simp (maxSteps := 2000000) (disch := first | omega | assumption) only [↓mCode, ↓mOps, mAll, seval, vPtr, ite_ne, wrap_i64, boundN_int, e1_tys, e1_fns, fn8, Tryz.f8, r2, r3, r4, r6, g_len, c1', cG0, cA0, hca, sa, sg, sr, Nat.mul_one]
      refine (count25_ok (ha.ext G0).rows (hra.ext G0).1 (by omega) fa.small (fg.small i c1)).call rfl e1_subs ?_
      rintro _ _ _ ⟨rfl, rfl, rfl⟩
      by_cases c2 : cnt la (lg.getD i []) < cnt lg (lg.getD i [])
      · have c2' : ((cnt lg (lg.getD i []) : Int) > (cnt la (lg.getD i []) : Int)) = True := eq_true (by omega)
        have ng : goesB lg la = false := goesB_f fun q => by
          have := q (lg.getD i []) (by rw [List.getD_eq_getElem?_getD, List.getElem?_eq_getElem c1]; exact List.getElem_mem c1)
          omega
        simp (maxSteps := 2000000) (disch := first | omega | assumption) only [↓mCode, ↓mOps, mAll, seval, vPtr, ite_ne, wrap_i64, boundN_int, e1_tys, e1_fns, fn8, Tryz.f8, r2, r3, r4, r6, g_len, c1', c2', cG0, cA0, hca, sa, sg, sr, q2, Nat.mul_one]
        exact K _ _ _ ⟨fun _ => rfl, fun e => (by rw [ng] at e; cases e), G0.set (by omega) _⟩
      · have c2' : ((cnt lg (lg.getD i []) : Int) > (cnt la (lg.getD i []) : Int)) = False := eq_false (by omega)
        simp (maxSteps := 2000000) (disch := first | omega | assumption) only [↓mCode, ↓mOps, mAll, seval, vPtr, ite_ne, wrap_i64, boundN_int, e1_tys, e1_fns, fn8, Tryz.f8, r2, r3, r4, r6, g_len, c1', c2', cG0, cA0, hca, sa, sg, sr, Nat.mul_one]
        refine IH (lg.length - (i + 1)) _ _ _ (by omega) ⟨i + 1, rfl, by omega, ?_, ?_, ?_, ?_, fun j hj' => ?_, rfl, rfl⟩
        iterate 4
          · simp only [mBase, Nat.reduceEqDiff, Nat.reduceSub, reduceIte, r2, r3, r4, r6] <;> rfl
        · by_cases e : j = i
          · rw [e]; omega
          · exact hj j (by omega)
    · have c1' : ((i : Int) < (lg.length : Int)) = False := eq_false (by omega)
      simp (maxSteps := 2000000) (disch := first | omega | assumption) only [↓mCode, ↓mOps, mAll, seval, vPtr, ite_ne, wrap_i64, boundN_int, e1_tys, e1_fns, fn8, Tryz.f8, r2, r3, r4, r6, g_len, c1', cG0]
      refine hexit _ _ _ ⟨by simp only [mBase, Nat.reduceEqDiff, Nat.reduceSub, reduceIte, r2], by simp only [mBase, Nat.reduceEqDiff, Nat.reduceSub, reduceIte, r3], by simp only [mBase, Nat.reduceEqDiff, Nat.reduceSub, reduceIte, r4], fun x hx => ?_, rfl, rfl⟩
      obtain ⟨j, hjl, rfl⟩ := List.getElem_of_mem hx
      have := hj j (by omega)
      rwa [List.getD_eq_getElem?_getD, List.getElem?_eq_getElem hjl] at this
  · rintro regs H0 n9 ⟨r2, r3, r4, goes, rfl, rfl⟩
    have hgb := goesB_t goes
    simp (maxSteps := 2000000) (disch := first | omega | assumption) only [↓mCode, ↓mOps, mAll, seval, vPtr, ite_ne, wrap_i64, boundN_int, e1_tys, e1_fns, fn8, Tryz.f8, r2, r3, r4]
    refine W_loopE (fun m regs h' n' => ∃ (i : Nat) (acc : V), m = la.length - i ∧ i ≤ la.length ∧ regs.get 2 = some (.ptr n 0) ∧ regs.get 3 = some (.ptr (n + 1) 0) ∧ regs.get 4 = some (.ptr (n + 1 + 1) 0) ∧ regs.get 7 = some acc ∧ regs.get 8 = some (.int .i64 (i : Int)) ∧
        OutAt h' (n + 1 + 1 + 1) n' acc (rem lg (la.take i)) ∧ Gro H0 (n + 1 + 1 + 1) h' n')
      (fun regs h' n' => ∃ (acc : V), regs.get 2 = some (.ptr n 0) ∧ regs.get 3 = some (.ptr (n + 1) 0) ∧ regs.get 4 = some (.ptr (n + 1 + 1) 0) ∧ regs.get 7 = some acc ∧ OutAt h' (n + 1 + 1 + 1) n' acc (rem lg la) ∧ Gro H0 (n + 1 + 1 + 1) h' n')
      _ ⟨0, _, rfl, by omega, ?_, ?_, ?_, ?_, ?_, .inl ⟨rfl, rem_nil⟩, Gro.refl _ _⟩ ?_ ?_
    iterate 5
      · simp only [mBase, Nat.reduceEqDiff, Nat.reduceSub, reduceIte, r2, r3, r4] <;> rfl
    · rintro t hexit m regs h' n' ⟨i, acc, e0, hi, r2, r3, r4, r7, r8, O1, G1⟩ IH
      have p0 := (G1.2 n (by omega)).trans q0
      have p1 := (G1.2 (n + 1) (by omega)).trans q1
      have cA1 := @cA h' p0
      have cG1 := @cG h' p1
      have G01 := G0.trans G1
      by_cases c1 : i < la.length
      · have c1' : ((i : Int) < (la.length : Int)) = True := eq_true (by omega)
        obtain ⟨ida, ofa, exa, ka, loa, ra, rfl, hloa, hida, hca, hra⟩ := ha.get c1
        have hca := hca h' (G01.2 ida hida)
        have sr : sameV ra ra = true := sl_same hra.1
        have hsn := take_snocR c1
        have hrl : (rem lg (la.take i)).length ≤ i := Nat.le_trans (rem_le _ _) (by rw [List.length_take]; omega)
        simp (maxSteps := 2000000) (disch := first | omega | assumption) only [↓mCode, ↓mOps, mAll, seval, vPtr, ite_ne, wrap_i64, boundN_int, e1_tys, e1_fns, fn8, Tryz.f8, r2, r3, r4, r7, r8, a_len, c1', cA1]
        refine W_draw sr8_10 ss8_10 ?_ ?_
        · exact sk8_10
        have e1 : ((i : Int) + 1).toNat = i + 1 := by omega
        have e2 : i + 1 ≤ la.length := by omega
        have e3 : (if ka = 0 then ofa else ofa) = ofa := ite_self _
        cases exa
        all_goals
          simp (maxSteps := 2000000) (disch := first | omega | assumption) only [↓mCode, ↓mOps, mAll, seval, vPtr, ite_ne, wrap_i64, boundN_int, e1_tys, e1_fns, fn8, Tryz.f8, r2, r3, r4, r7, r8, a_len, c1', cA1, cG1, hca, sa, sg, sr, Nat.mul_one, Nat.zero_mul, Nat.sub_zero, e1, e3]
          refine (count25_ok ((ha.ext G01).rows.take (j := i + 1) (lo' := loa) e2 (by omega)) (hra.ext G01).1 (by rw [List.length_take]; omega) (small_iff.2 fun y hy => small_iff.1 fa.small y (List.mem_of_mem_take hy)) (fa.small i c1)).call rfl e1_subs ?_
          rintro _ h' n' ⟨rfl, rfl, rfl⟩
          simp (maxSteps := 2000000) (disch := first | omega | assumption) only [↓mCode, ↓mOps, mAll, seval, vPtr, ite_ne, wrap_i64, boundN_int, e1_tys, e1_fns, fn8, Tryz.f8, r2, r3, r4, r7, r8, a_len, c1', cA1, cG1, hca, sa, sg, sr, Nat.mul_one, Nat.zero_mul, Nat.sub_zero, e1, e3]
          refine (count25_ok (hg.ext G01).rows (hra.ext G01).1 (by omega) fg.small (fa.small i c1)).call rfl e1_subs ?_
          rintro _ h' n' ⟨rfl, rfl, rfl⟩
          have hc : cnt (la.take (i + 1)) (la.getD i []) = cnt (la.take i) (la.getD i []) + 1 := by rw [hsn, cnt_snoc, if_pos rfl]
          by_cases c2 : la.getD i [] ∈ over lg (la.take i)
          · have c2' : ((cnt (la.take (i + 1)) (la.getD i []) : Int) > (cnt lg (la.getD i []) : Int)) = False := eq_false (by have := mem_over.1 c2; omega)
            simp (maxSteps := 2000000) (disch := first | omega | assumption) only [↓mCode, ↓mOps, mAll, seval, vPtr, ite_ne, wrap_i64, boundN_int, e1_tys, e1_fns, fn8, Tryz.f8, r2, r3, r4, r7, r8, a_len, c1', cA1, cG1, hca, sa, sg, sr, Nat.mul_one, Nat.zero_mul, Nat.sub_zero, e1, e3, c2']
            refine IH (la.length - (i + 1)) _ _ _ (by omega) ⟨i + 1, acc, rfl, by omega, by simp only [mBase, Nat.reduceEqDiff, Nat.reduceSub, reduceIte, r2], by simp only [mBase, Nat.reduceEqDiff, Nat.reduceSub, reduceIte, r3], by simp only [mBase, Nat.reduceEqDiff, Nat.reduceSub, reduceIte, r4], by simp only [mBase, Nat.reduceEqDiff, Nat.reduceSub, reduceIte, r7], by simp only [mBase, Nat.reduceEqDiff, Nat.reduceSub, reduceIte, r8]; rfl, by rw [hsn, rem_in c2]; exact O1, G1⟩
          · have c2' : ((cnt (la.take (i + 1)) (la.getD i []) : Int) > (cnt lg (la.getD i []) : Int)) = True := by
              have q : ¬ ¬ (cnt lg (la.getD i []) < cnt (la.take i) (la.getD i []) + 1) := fun q => c2 (mem_over.2 q)
              exact eq_true (by omega)
            have one_r : oneV ra = true := hra.1.one
            have cell_r : cellsOf ra = [ra] := cellsOf_one one_r
            have g1n := G1.1
            obtain ⟨v2, h2, n2, ap, O2, G3, hn2, hk2, _⟩ := app_rows (h := h'.put n' (some (.cells (ofT [ra]) 1 1))) (n0 := n + 1 + 1 + 1) (n := n' + 1) (acc := acc) (vn := .slice n' 0 1 true 1 1) (ls := rem lg (la.take i)) (ln := [la.getD i []]) (g := fun _ => ra)
              (O1.ext ((Gro.refl h' n').put _)) (sl_one (T.get_put _ _ _ _ |>.trans (if_pos rfl)))
              (fun j hj => by
                have : j = 0 := by simpa using hj
                subst this; exact (hra.ext G01).ext ((Gro.refl h' n').put _))
              (fun j hj id hid e => by have a := O1.take hid; have b := hra.2 id e; omega) (by simp; omega) (by omega)
            simp (maxSteps := 2000000) (disch := first | omega | assumption) only [↓mCode, ↓mOps, mAll, seval, vPtr, ite_ne, wrap_i64, boundN_int, e1_tys, e1_fns, fn8, Tryz.f8, r2, r3, r4, r7, r8, a_len, c1', cA1, cG1, hca, sa, sg, sr, Nat.mul_one, Nat.zero_mul, Nat.sub_zero, e1, e3, c2', one_r, cell_r, src22_s, ap]
            refine IH (la.length - (i + 1)) _ _ _ (by omega) ⟨i + 1, v2, rfl, by omega, by simp only [mBase, Nat.reduceEqDiff, Nat.reduceSub, reduceIte, r2], by simp only [mBase, Nat.reduceEqDiff, Nat.reduceSub, reduceIte, r3], by simp only [mBase, Nat.reduceEqDiff, Nat.reduceSub, reduceIte, r4], by simp only [mBase, Nat.reduceEqDiff, Nat.reduceSub, reduceIte, r7], by simp only [mBase, Nat.reduceEqDiff, Nat.reduceSub, reduceIte, r8]; rfl, by rw [hsn, rem_out c2]; exact O2, ⟨by omega, fun j hj => ?_⟩⟩
            rw [G3.2 j hj, T.get_put, if_neg (by omega)]
            exact G1.2 j hj
      · have c1' : ((i : Int) < (la.length : Int)) = False := eq_false (by omega)
        rw [List.take_of_length_le (by omega)] at O1
        simp (maxSteps := 2000000) (disch := first | omega | assumption) only [↓mCode, ↓mOps, mAll, seval, vPtr, ite_ne, wrap_i64, boundN_int, e1_tys, e1_fns, fn8, Tryz.f8, r2, r3, r4, r7, r8, a_len, c1', cA1]
        exact hexit _ _ _ ⟨acc, by simp only [mBase, Nat.reduceEqDiff, Nat.reduceSub, reduceIte, r2], by simp only [mBase, Nat.reduceEqDiff, Nat.reduceSub, reduceIte, r3], by simp only [mBase, Nat.reduceEqDiff, Nat.reduceSub, reduceIte, r4], by simp only [mBase, Nat.reduceEqDiff, Nat.reduceSub, reduceIte, r7], O1, G1⟩
    · rintro regs h5 n5 ⟨acc, r2, r3, r4, r7, O1, G1⟩
      have p1 := (G1.2 (n + 1) (by omega)).trans q1
      have p2 := (G1.2 (n + 1 + 1) (by omega)).trans q2
      have cN1 := @cN h5 p1
      have cY1 := @cY h5 p1
      have G01 := G0.trans G1
      obtain ⟨gn, Sn, hrn⟩ := hn.2
      have sv := src22_any hn
      have hll : (rem lg la ++ ln).length ≤ 200 := by have := rem_le la lg; rw [List.length_append]; omega
      have hsm : Small (rem lg la ++ ln) := small_app (small_rem fa.small) fn.small
      obtain ⟨v3, h3, n3, ap, O3, G3, hn3, hk3, _⟩ := app_rows (acc := acc) (vn := vn) (ls := rem lg la) (ln := ln) O1 (Sn.keep fun id hid => G01.2 id (hn.1 id hid)) (fun i hi => (hrn i hi).ext G01)
        (fun i hi id hid e => by have a := O1.take hid; have b := (hrn i hi).2 id e; omega) (by rw [List.length_append] at hll; omega) G1.1
      simp (maxSteps := 2000000) (disch := first | omega | assumption) only [↓mCode, ↓mOps, mAll, seval, vPtr, ite_ne, wrap_i64, boundN_int, e1_tys, e1_fns, fn8, Tryz.f8, r2, r3, r4, r7]
      refine W_draw sr8_12 ss8_12 ?_ ?_
      · exact sk8_12
      have cN3 := @cN h3 ((G3.2 (n + 1) (by omega)).trans p1)
      have cY3 := @cY h3 ((G3.2 (n + 1) (by omega)).trans p1)
      have sy : sameV (V.bool y2) (V.bool y2) = true := by cases y2 <;> rfl
      simp (maxSteps := 2000000) (disch := first | omega | assumption) only [↓mCode, ↓mOps, mAll, seval, vPtr, ite_ne, wrap_i64, boundN_int, e1_tys, e1_fns, fn8, Tryz.f8, r2, r3, r4, r7, cN1, cY1, cN3, cY3, sn, sv, sy, ap]
      refine (sort20_ok O3.rowsIn (by omega) hsm).call rfl e1_subs ?_
      rintro v4 h4 n4 ⟨O4, G4⟩
      have g3n := G1.1
      have k1 := (G4.2 (n + 1) (by omega)).trans ((G3.2 (n + 1) (by omega)).trans p1)
      have k2 := (G4.2 (n + 1 + 1) (by omega)).trans ((G3.2 (n + 1 + 1) (by omega)).trans p2)
      have cN4 := @cN h4 k1
      have cY4 := @cY h4 k1
      have o5 : oneV v4 = true := O4.rowsIn.one
      have ce5 : cellsOf v4 = [v4] := cellsOf_one o5
      simp (maxSteps := 2000000) (disch := first | omega | assumption) only [↓mCode, ↓mOps, mAll, seval, vPtr, ite_ne, wrap_i64, boundN_int, e1_tys, e1_fns, fn8, Tryz.f8, r2, r3, r4, r7, cN4, cY4, sn, sv, sy, o5, ce5, k2]
      refine K _ _ _ ⟨fun e => (by rw [hgb] at e; cases e), fun _ => ⟨v4, rfl, (O4.setA (by omega) k2 noInt).rowsIn⟩, ⟨by have := G0.1; have := G4.1; omega, fun j hj => ?_⟩⟩
      rw [T.get_put, if_neg (by omega), G4.2 j (by omega), G3.2 j (by omega)]
      exact G01.2 j hj
end Go.Mir
namespace Go.Mir
/-- few rows of few terms, no text too long -/
def FewT (la : List (List Tm)) : Prop := la.length ≤ 100 ∧ ∀ i, i < la.length → (la.getD i []).length ≤ 100 ∧ ∀ k, k < (la.getD i []).length → ((la.getD i []).getD k (0, [], [])).2.1.length ≤ 30000 ∧ ((la.getD i []).getD k (0, [], [])).2.2.length ≤ 30000
open Go Go.Proofs Go.Srt
set_option maxRecDepth 4000
set_option maxHeartbeats 2000000

theorem much_any {h : T O} {n : Nat} {va : V} {la : List (List Tm)} (ha : Rows h va la) :
    Fn env1 20 [va] h n (fun v h' n' => (∃ b, v = .bool b ∧ (b = false → FewT la)) ∧ h' = h ∧ n' = n) := by
  refine Fn.mk fn20 rfl fz20 (by simp) fun Q cs K => ?_
  have l_len : ∀ {e : Nat} {k : V → Out}, lenIn h (.slice e) va k = k (.int .i64 (la.length : Int)) := ha.len
  simp (maxSteps := 2000000) (disch := first | omega | assumption) only [↓mCode, ↓mOps, mAll, seval, vPtr, ite_ne, wrap_i64, boundN_int, e1_tys, e1_fns, fn20, Tryz.f20, l_len]
  refine W_loopE (fun m regs h' n' => ∃ (i : Nat) (c : Int), m = la.length - i ∧ i ≤ la.length ∧ i ≤ 101 ∧ 0 ≤ c ∧ c ≤ 30000 ∧ regs.get 0 = some va ∧ regs.get 3 = some (.int .i64 c) ∧ regs.get 4 = some (.int .i64 (i : Int)) ∧
    (∀ j, j < i → (la.getD j []).length ≤ 100 ∧ ∀ k, k < (la.getD j []).length → ((la.getD j []).getD k (0, [], [])).2.1.length ≤ 30000 ∧ ((la.getD j []).getD k (0, [], [])).2.2.length ≤ 30000) ∧ h' = h ∧ n' = n)
    (fun regs h' n' => regs.get 0 = some va ∧ (la.length ≤ 100 → ∀ j, j < la.length → (la.getD j []).length ≤ 100 ∧ ∀ k, k < (la.getD j []).length → ((la.getD j []).getD k (0, [], [])).2.1.length ≤ 30000 ∧ ((la.getD j []).getD k (0, [], [])).2.2.length ≤ 30000) ∧ h' = h ∧ n' = n)
    _ ⟨0, 0, rfl, by omega, by omega, by omega, by omega, ?_, ?_, ?_, fun j hj => by omega, rfl, rfl⟩ ?_ ?_
  · simp (maxSteps := 2000000) (disch := first | omega | assumption) only [↓mCode, ↓mOps, mAll, seval, vPtr, ite_ne, wrap_i64, boundN_int, e1_tys]
  · simp (maxSteps := 2000000) (disch := first | omega | assumption) only [↓mCode, ↓mOps, mAll, seval, vPtr, ite_ne, wrap_i64, boundN_int, e1_tys]
  · simp (maxSteps := 2000000) (disch := first | omega | assumption) only [↓mCode, ↓mOps, mAll, seval, vPtr, ite_ne, wrap_i64, boundN_int, e1_tys]
  · rintro t hexit m regs h' n' ⟨i, c, rfl, hi, hi2, hc0, hc1, r0, r3, r4, hj, rfl, rfl⟩ IH
    by_cases c1 : i < la.length
    · have c1' : (i : Int) < (la.length : Int) := by omega
      by_cases c2 : i ≤ 100
      · have c2' : (i : Int) ≤ 100 := by omega
        obtain ⟨ida, ofa, exa, ka, loa, ra, hvl, hloa, hca, hra⟩ := ha.get c1
        simp (maxSteps := 2000000) (disch := first | omega | assumption) only [↓mCode, ↓mOps, mAll, seval, vPtr, ite_ne, wrap_i64, boundN_int, e1_tys, e1_fns, fn20, Tryz.f20, r0, r3, r4, l_len, c1', c2', hvl, hca, Nat.mul_one]
        have r_len : ∀ {e : Nat} {k : V → Out}, lenIn h' (.slice e) ra k = k (.int .i64 ((la.getD i []).length : Int)) := Sl.len hra
        generalize hrow : la.getD i [] = row at *
        refine W_loopE (fun m regs h9 n9 => ∃ (k : Nat) (z : Int), m = row.length - k ∧ k ≤ row.length ∧ k ≤ 101 ∧ 0 ≤ z ∧ z ≤ 30000 + k * 60003 ∧ regs.get 0 = some va ∧ regs.get 3 = some (.int .i64 z) ∧ regs.get 4 = some (.int .i64 (i : Int)) ∧
          regs.get 5 = some (.int .i64 (k : Int)) ∧ (∀ q, q < k → ((min (row.getD q (0, [], [])).2.1.length 30001 : Nat) : Int) ≤ z ∧ ((min (row.getD q (0, [], [])).2.2.length 30001 : Nat) : Int) ≤ z) ∧ h9 = h' ∧ n9 = n')
          (fun regs h9 n9 => ∃ z : Int, 0 ≤ z ∧ (row.length ≤ 100 → ∀ q, q < row.length → ((min (row.getD q (0, [], [])).2.1.length 30001 : Nat) : Int) ≤ z ∧ ((min (row.getD q (0, [], [])).2.2.length 30001 : Nat) : Int) ≤ z) ∧ regs.get 0 = some va ∧ regs.get 3 = some (.int .i64 z) ∧ regs.get 4 = some (.int .i64 (i : Int)) ∧ h9 = h' ∧ n9 = n')
          _ ⟨0, c, rfl, by omega, by omega, hc0, by omega, ?_, ?_, ?_, ?_, fun q hq => absurd hq (by omega), rfl, rfl⟩ ?_ ?_
        iterate 3
          · simp only [mBase, Nat.reduceEqDiff, Nat.reduceSub, reduceIte, r0, hvl, r3, r4] <;> rfl
        · simp (maxSteps := 2000000) (disch := first | omega | assumption) only [↓mCode, ↓mOps, mAll, seval, vPtr, ite_ne, wrap_i64, boundN_int, e1_tys]
        · rintro t2 hexit2 m regs h9 n9 ⟨k, z, rfl, hk, hk2, hz0, hz1, r0, r3, r4, r5, hq, rfl, rfl⟩ IH2
          by_cases d1 : k < row.length
          · have d1' : (k : Int) < (row.length : Int) := by omega
            by_cases d2 : k ≤ 100
            · have d2' : (k : Int) ≤ 100 := by omega
              obtain ⟨idr, ofr, exr, kr, lor, hrl, hlor, hcr1, hcr2⟩ := hra.cells d1
              simp (maxSteps := 2000000) (disch := first | omega | assumption) only [↓mCode, ↓mOps, mAll, seval, vPtr, ite_ne, wrap_i64, boundN_int, e1_tys, e1_fns, fn20, Tryz.f20, r0, r3, r4, r5, l_len, r_len, c1', c2', d1', d2', hvl, hca, hrl, Nat.mul_one]
              refine W_draw sr20_8 ss20_8 ?_ ?_
              · exact sk20_8
              simp (maxSteps := 2000000) (disch := first | omega | assumption) only [↓mCode, ↓mOps, mAll, seval, vPtr, ite_ne, wrap_i64, boundN_int, e1_tys, e1_fns, fn20, Tryz.f20, r0, r3, r4, r5, l_len, r_len, c1', c2', d1', d2', hvl, hca, hrl, hcr1, hcr2, Nat.mul_one, minE]
              refine IH2 (row.length - (k + 1)) _ _ _ (by omega) ⟨k + 1, z + 1 + ((min (row.getD k (0, [], [])).2.1.length 30001 : Nat) : Int) + ((min (row.getD k (0, [], [])).2.2.length 30001 : Nat) : Int), rfl, by omega, by omega, by omega, by omega, ?_, ?_, ?_, ?_, fun q hq' => ?_, rfl, rfl⟩
              iterate 4
                · simp only [mBase, Nat.reduceEqDiff, Nat.reduceSub, reduceIte, r0, hvl, r3, r4, r5] <;> rfl
              · by_cases e : q = k
                · subst e; omega
                · have := hq q (by omega); omega
            · have d2' : ¬ (k : Int) ≤ 100 := by omega
              simp (maxSteps := 2000000) (disch := first | omega | assumption) only [↓mCode, ↓mOps, mAll, seval, vPtr, ite_ne, wrap_i64, boundN_int, e1_tys, e1_fns, fn20, Tryz.f20, r0, r3, r4, r5, l_len, r_len, c1', d1', d2', hvl, hca, Nat.mul_one]
              refine hexit2 _ _ _ ⟨z, hz0, fun q => absurd q (by omega), ?_, ?_, ?_, rfl, rfl⟩
              iterate 3
                · simp only [mBase, Nat.reduceEqDiff, Nat.reduceSub, reduceIte, r0, hvl, r3, r4] <;> rfl
          · have d1' : ¬ (k : Int) < (row.length : Int) := by omega
            simp (maxSteps := 2000000) (disch := first | omega | assumption) only [↓mCode, ↓mOps, mAll, seval, vPtr, ite_ne, wrap_i64, boundN_int, e1_tys, e1_fns, fn20, Tryz.f20, r0, r3, r4, r5, l_len, r_len, c1', d1', hvl, hca, Nat.mul_one]
            refine hexit2 _ _ _ ⟨z, hz0, fun _ q hq' => hq q (by omega), ?_, ?_, ?_, rfl, rfl⟩
            iterate 3
              · simp only [mBase, Nat.reduceEqDiff, Nat.reduceSub, reduceIte, r0, hvl, r3, r4] <;> rfl
        · rintro regs h9 n9 ⟨z, hz0, hq, r0, r3, r4, rfl, rfl⟩
          by_cases d1 : z > 30000
          · simp (maxSteps := 2000000) (disch := first | omega | assumption) only [↓mCode, ↓mOps, mAll, seval, vPtr, ite_ne, wrap_i64, boundN_int, e1_tys, e1_fns, fn20, Tryz.f20, r0, r3, r4, l_len, r_len, c1', d1, hvl, hca, Nat.mul_one]
            exact K _ _ _ ⟨⟨true, rfl, fun h => (by cases h)⟩, rfl, rfl⟩
          · by_cases d2 : row.length > 100
            · have d2' : (row.length : Int) > 100 := by omega
              simp (maxSteps := 2000000) (disch := first | omega | assumption) only [↓mCode, ↓mOps, mAll, seval, vPtr, ite_ne, wrap_i64, boundN_int, e1_tys, e1_fns, fn20, Tryz.f20, r0, r3, r4, l_len, r_len, c1', d1, d2', hvl, hca, Nat.mul_one]
              exact K _ _ _ ⟨⟨true, rfl, fun h => (by cases h)⟩, rfl, rfl⟩
            · have d2' : ¬ (row.length : Int) > 100 := by omega
              simp (maxSteps := 2000000) (disch := first | omega | assumption) only [↓mCode, ↓mOps, mAll, seval, vPtr, ite_ne, wrap_i64, boundN_int, e1_tys, e1_fns, fn20, Tryz.f20, r0, r3, r4, l_len, r_len, c1', d1, d2', hvl, hca, Nat.mul_one]
              refine IH (la.length - (i + 1)) _ _ _ (by omega) ⟨i + 1, z, rfl, by omega, by omega, hz0, by omega, ?_, ?_, ?_, fun j hj' => ?_, rfl, rfl⟩
              iterate 3
                · simp only [mBase, Nat.reduceEqDiff, Nat.reduceSub, reduceIte, r0, hvl, r3, r4] <;> rfl
              · rcases Nat.lt_or_ge j i with h | h
                · exact hj j h
                · have e : j = i := by omega
                  rw [e, hrow]
                  refine ⟨by omega, fun q hq' => ?_⟩
                  have := hq (by omega) q hq'
                  omega
      · have c2' : ¬ (i : Int) ≤ 100 := by omega
        simp (maxSteps := 2000000) (disch := first | omega | assumption) only [↓mCode, ↓mOps, mAll, seval, vPtr, ite_ne, wrap_i64, boundN_int, e1_tys, e1_fns, fn20, Tryz.f20, r0, r3, r4, l_len, c1', c2']
        refine hexit _ _ _ ⟨?_, fun h => absurd h (by omega), rfl, rfl⟩
        simp (maxSteps := 2000000) (disch := first | omega | assumption) only [↓mCode, ↓mOps, mAll, seval, vPtr, ite_ne, wrap_i64, boundN_int, r0]
    · have c1' : ¬ (i : Int) < (la.length : Int) := by omega
      simp (maxSteps := 2000000) (disch := first | omega | assumption) only [↓mCode, ↓mOps, mAll, seval, vPtr, ite_ne, wrap_i64, boundN_int, e1_tys, e1_fns, fn20, Tryz.f20, r0, r3, r4, l_len, c1']
      refine hexit _ _ _ ⟨?_, fun _ j h => hj j (by omega), rfl, rfl⟩
      simp (maxSteps := 2000000) (disch := first | omega | assumption) only [↓mCode, ↓mOps, mAll, seval, vPtr, ite_ne, wrap_i64, boundN_int, r0]
  · rintro regs h' n' ⟨r0, hj, rfl, rfl⟩
    simp (maxSteps := 2000000) (disch := first | omega | assumption) only [↓mCode, ↓mOps, mAll, seval, vPtr, ite_ne, wrap_i64, boundN_int, e1_tys, e1_fns, fn20, Tryz.f20, r0, l_len]
    refine K _ _ _ ⟨⟨_, rfl, fun hb => ?_⟩, rfl, rfl⟩
    have : la.length ≤ 100 := by
      have := of_decide_eq_false hb; omega
    exact ⟨this, hj this⟩
end Go.Mir
