/- Walks: rows copied; an answer with its news (the program's Apply). -/
import Derived.Test.YtojkinikdcelbaaGreatDoorEnv
import Derived.KernelRfl
import Derived.Test.YtojkinikdcelbaaGreatDoorWatC
set_option linter.unusedSimpArgs false
set_option linter.unusedVariables false
set_option linter.defProp false
namespace Go.Mir
open Go Go.Proofs
theorem fn20 : fns.get 20 = some Tryz.f20 := by kernel_rfl
theorem fz20 : Tryz.f20.ntmps = 66 := by kernel_rfl
theorem sr20_8 : (scripts.get 20) = some sc20 := by kernel_rfl
theorem ss20_8 : sc20.get 8 = some [.ev 0, .ev 1, .ev 2, .ev 3, .ev 4, .ev 5, .ev 6, .ev 7, .ev 8, .ev 9, .ev 10, .ev 11, .ev 12, .ev 13, .ev 14, .ev 15, .ev 16, .ev 17, .ev 18, .ev 19, .ev 20, .ev 21, .ev 22, .ev 23, .ch 24] := by kernel_rfl
theorem sk20_8 : scOk tys (opsOf Tryz.f20 8) [.ev 0, .ev 1, .ev 2, .ev 3, .ev 4, .ev 5, .ev 6, .ev 7, .ev 8, .ev 9, .ev 10, .ev 11, .ev 12, .ev 13, .ev 14, .ev 15, .ev 16, .ev 17, .ev 18, .ev 19, .ev 20, .ev 21, .ev 22, .ev 23, .ch 24] = true := by kernel_rfl
end Go.Mir
namespace Go.Mir
open Go Go.Proofs Go.Srt
set_option maxRecDepth 4000
set_option maxHeartbeats 8000000

theorem nil22_s {id off len kk lo : Nat} {ex : Bool} {k : V → Out} : binK tys .eql 22 (.slice id off len ex kk lo) (.base (.slice none 0 0)) k = k (.bool false) := by
  show eqNil tys 22 (.slice id off len ex kk lo) (.base (.slice none 0 0)) (fun r => k (.bool r)) = _
  unfold eqNil
  rw [ty22]; rfl
theorem nil22_n {k : V → Out} : binK tys .eql 22 (.base (.slice none 0 0)) (.base (.slice none 0 0)) k = k (.bool true) := by
  show eqNil tys 22 (.base (.slice none 0 0)) (.base (.slice none 0 0)) (fun r => k (.bool r)) = _
  unfold eqNil
  rw [ty22]; rfl
theorem OutAt.ext {h h' : T O} {n0 n n' : Nat} {v : V} {ls : List (List Tm)} (O : OutAt h n0 n v ls) (G : Gro h n h' n') : OutAt h' n0 n' v ls :=
  (O.toB.keepAt G.1 fun j hj => G.2 j (by omega)).out G.1

/-- rows of the run's own making, by slices.Clone -/
theorem clone24_ok {h : T O} {n0 n : Nat} {v : V} {ls : List (List Tm)} (O : OutAt h n0 n v ls) (hv : ls = [] → v = .base (.slice none 0 0)) (hl : ls.length ≤ 900000) :
    Fn env1 24 [v] h n (fun v' h' n' => OutAt h' n n' v' ls ∧ Gro h n h' n') := by
  refine Fn.mk fn24 rfl fz24 (by simp) fun Q cs K => ?_
  by_cases c0 : ls = []
  · obtain rfl := hv c0
    simp (maxSteps := 2000000) (disch := first | omega | assumption) only [↓mCode, ↓mOps, mAll, seval, vPtr, ite_ne, wrap_i64, boundN_int, e1_tys, e1_fns, fn24, Tryz.f24, nil22_n]
    exact K _ _ _ ⟨.inl ⟨rfl, c0⟩, Gro.refl h n⟩
  · rcases O with ⟨_, e⟩ | ⟨id, t, rfl, g1, g2, g3, g, hg⟩
    · exact absurd e c0
    have c1 : ls.length ≠ 0 := fun e => c0 (List.length_eq_zero_iff.1 e)
    have c2 : ¬ ls.length ≤ 0 := by omega
    have hC : ∀ {kk : List V → Out}, cellsAt h id 0 (ls.length * 1) kk = kk ((List.range (ls.length * 1)).map g) := Cells.all ⟨_, t, _, 1, g1, .inl rfl, by omega, fun j hj => by rw [Nat.zero_add]; exact (hg j (by omega)).1⟩ rfl rfl
    simp only [Nat.mul_one] at hC
    simp (maxSteps := 2000000) (disch := first | omega | assumption) only [↓mCode, ↓mOps, mAll, seval, vPtr, ite_ne, wrap_i64, boundN_int, e1_tys, e1_fns, fn24, Tryz.f24, nil22_s, src22_s, need_true, hC, app1_eq, c1, c2, Nat.zero_mul, Nat.mul_one, List.length_map, List.length_range]
    refine K _ _ _ ⟨.inr ⟨n + 1, _, rfl, T.get_put _ _ _ _ |>.trans (if_pos rfl), by omega, by omega, g, fun j hj => ⟨?_, (hg j hj).2.1.ext (((Gro.refl h n).put _).put _), fun e => ?_⟩⟩, ((Gro.refl h n).put _).put _⟩
    · rw [ofT_get, List.getElem?_map, List.getElem?_range hj]; rfl
    · have := (hg j hj).2.1.2 _ e; omega

/-- rows in new memory -/
theorem copied23_ok {h : T O} {n : Nat} {va : V} {la : List (List Tm)} (ha : RowsIn h n va la) (hn : la.length ≤ 900) (hs : Small la) :
    Fn env1 23 [va] h n (fun v h' n' => OutAt h' n n' v la ∧ Gro h n h' n') := by
  refine Fn.mk fn23 rfl fz23 (by simp) fun Q cs K => ?_
  have l_len : ∀ {h' : T O} {e : Nat} {k : V → Out}, lenIn h' (.slice e) va k = k (.int .i64 (la.length : Int)) := by
    intro h' e k; have := ha.rows
    obtain ⟨g, S, _⟩ := this
    generalize la.length = L at S ⊢
    cases S with
    | nil => exact lenIn_nil
    | tail => exact lenIn_tail
    | slice => exact lenIn_slice
  simp (maxSteps := 2000000) (disch := first | omega | assumption) only [↓mCode, ↓mOps, mAll, seval, vPtr, ite_ne, wrap_i64, boundN_int, e1_tys, e1_fns, fn23, Tryz.f23, l_len]
  refine W_loopE (fun m regs h' n' => ∃ (i : Nat) (acc : V), m = la.length - i ∧ i ≤ la.length ∧ regs.get 5 = some va ∧ regs.get 6 = some (.int .i64 (la.length : Int)) ∧ regs.get 2 = some acc ∧ regs.get 7 = some (.int .i64 (i : Int)) ∧
    OutAt h' n n' acc (la.take i) ∧ Gro h n h' n')
    (fun regs h' n' => ∃ acc : V, regs.get 2 = some acc ∧ OutAt h' n n' acc la ∧ Gro h n h' n')
    _ ⟨0, _, rfl, by omega, ?_, ?_, ?_, ?_, .inl ⟨rfl, rfl⟩, Gro.refl h n⟩ ?_ ?_
  · simp (maxSteps := 2000000) (disch := first | omega | assumption) only [↓mCode, ↓mOps, mAll, seval, vPtr, ite_ne, wrap_i64, boundN_int, e1_tys]
  · simp (maxSteps := 2000000) (disch := first | omega | assumption) only [↓mCode, ↓mOps, mAll, seval, vPtr, ite_ne, wrap_i64, boundN_int, e1_tys]
  · simp (maxSteps := 2000000) (disch := first | omega | assumption) only [↓mCode, ↓mOps, mAll, seval, vPtr, ite_ne, wrap_i64, boundN_int, e1_tys]
  · simp (maxSteps := 2000000) (disch := first | omega | assumption) only [↓mCode, ↓mOps, mAll, seval, vPtr, ite_ne, wrap_i64, boundN_int, e1_tys] <;> rfl
  · rintro t hexit m regs h' n' ⟨i, acc, e0, hi, r5, r6, r2, r7, O1, G⟩ IH
    by_cases c1 : i < la.length
    · have c1' : ((i : Int) < (la.length : Int)) = True := eq_true (by omega)
      obtain ⟨ida, ofa, exa, ka, loa, ra, hvl, hloa, hida, hca, hra⟩ := ha.get c1
      have hca := hca h' (G.2 ida hida)
      simp (maxSteps := 2000000) (disch := first | omega | assumption) only [↓mCode, ↓mOps, mAll, seval, vPtr, ite_ne, wrap_i64, boundN_int, e1_tys, e1_fns, fn23, Tryz.f23, r5, r6, r2, r7, l_len, c1', hvl, hca, Nat.mul_one]
      refine (clone_ok (hra.ext G) (hs i c1)).call rfl e1_subs ?_
      rintro vr h1 n1 ⟨hr, hnew, G1⟩
      have one_r : oneV vr = true := hr.1.one
      have cell_r : cellsOf vr = [vr] := cellsOf_one one_r
      have hlen : (la.take i).length = i := by simp; omega
      have hstep := take_snocR c1
      have G2 : Gro h' n' (h1.put n1 (some (.cells (ofT [vr]) 1 1))) (n1 + 1) := G1.put _
      obtain ⟨v2, h2, n2, ap, O2, G3, hn2, hk2, _⟩ := app_rows (h := h1.put n1 (some (.cells (ofT [vr]) 1 1))) (n0 := n) (n := n1 + 1) (acc := acc) (vn := .slice n1 0 1 true 1 1) (ls := la.take i) (ln := [la.getD i []]) (g := fun _ => vr)
        (O1.ext G2) (sl_one (T.get_put _ _ _ _ |>.trans (if_pos rfl)))
        (fun j hj => by
          have : j = 0 := by simpa using hj
          subst this; exact hr.ext ((Gro.refl h1 n1).put _))
        (fun j hj id hid e => by have a := O1.take hid; have b := hnew id e; omega) (by rw [hlen]; simp; omega) (by have := G.1; have := G1.1; omega)
      simp (maxSteps := 2000000) (disch := first | omega | assumption) only [↓mCode, ↓mOps, mAll, seval, vPtr, ite_ne, wrap_i64, boundN_int, e1_tys, e1_fns, fn23, Tryz.f23, r5, r6, r2, r7, src22_s, need_true, one_r, cell_r, ap]
      refine IH (la.length - (i + 1)) _ _ _ (by omega) ⟨i + 1, v2, rfl, by omega, by simp (maxSteps := 2000000) (disch := first | omega | assumption) only [↓mCode, ↓mOps, mAll, seval, vPtr, ite_ne, wrap_i64, boundN_int, r5, hvl], by simp only [mBase, Nat.reduceEqDiff, Nat.reduceSub, reduceIte, r6], by simp only [mBase, Nat.reduceEqDiff, Nat.reduceSub, reduceIte, r2], by simp only [mBase, Nat.reduceEqDiff, Nat.reduceSub, reduceIte, r7]; rfl, by rw [hstep]; exact O2, ⟨by have := G.1; have := G1.1; omega, fun j hj => ?_⟩⟩
      rw [G3.2 j hj, G2.2 j (by have := G.1; omega)]; exact G.2 j hj
    · have c1' : ((i : Int) < (la.length : Int)) = False := eq_false (by omega)
      simp (maxSteps := 2000000) (disch := first | omega | assumption) only [↓mCode, ↓mOps, mAll, seval, vPtr, ite_ne, wrap_i64, boundN_int, e1_tys, e1_fns, fn23, Tryz.f23, r5, r6, r2, r7, l_len, c1']
      rw [List.take_of_length_le (by omega)] at O1
      exact hexit _ _ _ ⟨acc, by simp only [mBase, Nat.reduceEqDiff, Nat.reduceSub, reduceIte, r2], O1, G⟩
  · rintro regs h' n' ⟨acc, r2, O, G⟩
    simp (maxSteps := 2000000) (disch := first | omega | assumption) only [↓mCode, ↓mOps, mAll, seval, vPtr, ite_ne, wrap_i64, boundN_int, e1_tys, e1_fns, fn23, Tryz.f23, r2]
    exact K _ _ _ ⟨O, G⟩

theorem cell_of {h : T O} {id p m e : Nat} {l : List V} {y : V} (hg : h.get id = some (.cells (ofT l) m e)) (hp : p < m) (hy : l[p]? = some y) {kk : V → Out} : cellAt h id p kk = kk y := by
  rw [cellAt_eq, hg]
  show need (Nat.ble (p + 1) m) (om ((ofT l).get p) kk) = _
  rw [need_ble (by omega), ofT_get, hy]; rfl
theorem src22_any {h : T O} {n : Nat} {v : V} {l : List (List Tm)} (R : RowsIn h n v l) : srcTy tys 22 v = true := by
  obtain ⟨_, g, S, _⟩ := R
  generalize l.length = L at S
  cases S <;> exact src22

/-- a block in which no number stands is turned -/
theorem Row.setA {h : T O} {v : V} {l : List Tm} {i0 m e : Nat} {t t' : T V} (R : Row h v l) (hg : h.get i0 = some (.cells t m e)) (hno : ∀ j k z, t.get j ≠ some (.int k z)) : Row (h.put i0 (some (.cells t' m e))) v l := by
  unfold Row at *
  generalize hL : l.length = L at *
  cases R with
  | nil a => exact .nil a
  | tail id off a esz k => exact .tail id off a esz k
  | slice id off len ex k lo hlo C =>
    refine .slice _ _ _ _ _ _ hlo ?_
    by_cases c : id = i0
    · subst c
      obtain ⟨o, t1, m1, z1, h1, h2, h3, h4⟩ := C
      rw [hg] at h1
      cases h1
      rcases h2 with h2 | h2
      · cases h2
        cases L with
        | zero => exact ⟨_, t', m, e, by rw [T.get_put, if_pos rfl], .inl rfl, h3, fun j hj => absurd hj (by omega)⟩
        | succ L =>
          have := h4 0 (by omega)
          exact absurd this (hno _ _ _)
      · cases h2
    · exact C.keep (by rw [T.get_put, if_neg c])
theorem OutAt.setA {h : T O} {n0 n : Nat} {v : V} {ls : List (List Tm)} {i0 m e : Nat} {t t' : T V} (O : OutAt h n0 n v ls) (hi : i0 < n0) (hg : h.get i0 = some (.cells t m e)) (hno : ∀ j k z, t.get j ≠ some (.int k z)) : OutAt (h.put i0 (some (.cells t' m e))) n0 n v ls := by
  rcases O with q | ⟨id, t1, h1, h2, h3, h4, g, hgg⟩
  · exact .inl q
  · exact .inr ⟨id, t1, h1, by rw [T.get_put, if_neg (by omega)]; exact h2, h3, h4, g, fun j hj => ⟨(hgg j hj).1, ⟨(hgg j hj).2.1.1.setA hg hno, (hgg j hj).2.1.2⟩, (hgg j hj).2.2⟩⟩
theorem noInt {b : Bool} : ∀ j k z, (ofT [V.bool b, V.base (Value.slice none 0 0)]).get j ≠ some (.int k z) := fun j k z e => by
  rw [ofT_get] at e
  match j, e with
  | 0, e => cases e
  | 1, e => cases e
  | j + 2, e => simp at e

/-- do all that are to go stand there? -/
def Goes (lg la : List (List Tm)) : Prop := ∀ x ∈ lg, cnt lg x ≤ cnt la x
noncomputable def goesB (lg la : List (List Tm)) : Bool := @decide (Goes lg la) (Classical.propDecidable _)

theorem small_app {a b : List (List Tm)} (ha : Small a) (hb : Small b) : Small (a ++ b) := small_iff.2 fun y hy => (List.mem_append.1 hy).elim (small_iff.1 ha y) (small_iff.1 hb y)
theorem small_rem {lg la : List (List Tm)} (ha : Small la) : Small (rem lg la) := small_iff.2 fun y hy => small_iff.1 ha y (rem_mem hy)

/-- an answer with its news, by the program -/
theorem apply7_ok {h : T O} {n : Nat} {va vn vg : V} {la ln lg : List (List Tm)} {y y2 : Bool} {z : Int} (ha : RowsIn h n va la) (hn : RowsIn h n vn ln) (hg : RowsIn h n vg lg) (fa : OkRs la) (fn : OkRs ln) (fg : OkRs lg) :
    Fn env1 7 [.agg [.bool y, va], .agg [.int .i64 z, vn, vg, .bool y2]] h n (fun v h' n' => (goesB lg la = false → v = .tuple [.agg [.bool false, .base (.slice none 0 0)], .int .i64 7]) ∧
      (goesB lg la = true → ∃ u out, v = .tuple [.agg [.bool y2, u], .int .i64 0] ∧ RowsIn h' n' u out ∧ out.Perm (rem lg la ++ ln) ∧ Asc cmpR out) ∧ Gro h n h' n') := by
  refine Fn.mk fn7 rfl fz7 (by simp) fun Q cs K => ?_
  have ca : cellsOf va = [va] := cellsOf_one ha.one
  have oa : oneV va = true := ha.one
  have cn : cellsOf vn = [vn] := cellsOf_one hn.one
  have on : oneV vn = true := hn.one
  have cg : cellsOf vg = [vg] := cellsOf_one hg.one
  have og : oneV vg = true := hg.one
  have eb : decide ((la.length : Int) - ((rem lg la).length : Int) = (lg.length : Int)) = goesB lg la := by
    unfold goesB Goes
    rw [Bool.eq_iff_iff, decide_eq_true_iff, @decide_eq_true_iff _ (Classical.propDecidable _)]
    exact rem_all
  have fa1 := fa.1
  have fn1 := fn.1
  have fg1 := fg.1
  have hrl := rem_le la lg
  simp (maxSteps := 2000000) (disch := first | omega | assumption) only [↓mCode, ↓mOps, mAll, seval, vPtr, ite_ne, wrap_i64, boundN_int, e1_tys, e1_fns, fn7, Tryz.f7, ca, oa, cn, on, cg, og]
  generalize hH : ((h.put n (some (O.cells (ofT [V.bool y, va]) 2 2))).put (n + 1) (some (O.cells (ofT [V.int IntKind.i64 z, vn, vg, V.bool y2]) 4 4))).put (n + 1 + 1) (some (O.cells (ofT [V.bool false, V.base (Value.slice none 0 0)]) 2 2)) = H0
  have q1 : H0.get (n + 1) = some (O.cells (ofT [V.int IntKind.i64 z, vn, vg, V.bool y2]) 4 4) := by rw [← hH, T.get_put, if_neg (by omega), T.get_put, if_pos rfl]
  have q2 : H0.get (n + 1 + 1) = some (O.cells (ofT [V.bool false, V.base (Value.slice none 0 0)]) 2 2) := by rw [← hH, T.get_put, if_pos rfl]
  have G0 : Gro h n H0 (n + 1 + 1 + 1) := by rw [← hH]; exact (((Gro.refl h n).put _).put _).put _
  clear hH
  refine (less21_ok (ha.ext G0) (hg.ext G0) fa fg).call rfl e1_subs ?_
  rintro _ h1 n1 ⟨u, rfl, O1, hnil, G1⟩
  rw [eb]
  have p1 := (G1.2 (n + 1) (by omega)).trans q1
  have p2 := (G1.2 (n + 1 + 1) (by omega)).trans q2
  have g1n := G1.1
  cases hgb : goesB lg la with
  | false =>
    simp (maxSteps := 2000000) (disch := first | omega | assumption) only [↓mCode, ↓mOps, mAll, seval, vPtr, ite_ne, wrap_i64, boundN_int, e1_tys, e1_fns, fn7, Tryz.f7, p1, p2]
    exact K _ _ _ ⟨fun _ => rfl, fun e => (by rw [hgb] at e; cases e), ((G0.trans G1).set (by omega) _)⟩
  | true =>
    simp (maxSteps := 2000000) (disch := first | omega | assumption) only [↓mCode, ↓mOps, mAll, seval, vPtr, ite_ne, wrap_i64, boundN_int, e1_tys, e1_fns, fn7, Tryz.f7, p1, p2]
    refine W_draw sr7_4 ss7_4 ?_ ?_
    · exact sk7_4
    have c11 : ∀ {kk : V → Out}, cellAt h1 (n + 1) 1 kk = kk vn := cell_of p1 (by omega) rfl
    simp (maxSteps := 2000000) (disch := first | omega | assumption) only [↓mCode, ↓mOps, mAll, seval, vPtr, ite_ne, wrap_i64, boundN_int, e1_tys, e1_fns, fn7, Tryz.f7, p2, c11]
    refine (clone24_ok O1 hnil (by omega)).call rfl e1_subs ?_
    rintro vc h2 n2 ⟨O2, G2⟩
    have r1 := (G2.2 (n + 1) (by omega)).trans p1
    have r2 := (G2.2 (n + 1 + 1) (by omega)).trans p2
    have G02 := (G0.trans G1).trans G2
    obtain ⟨gn, Sn, hrn⟩ := hn.2
    have sn := src22_any hn
    have sv : sameV vn vn = true := hn.sameV
    have c12 : ∀ {kk : V → Out}, cellAt h2 (n + 1) 1 kk = kk vn := cell_of r1 (by omega) rfl
    have g2n := G2.1
    have hll : (rem lg la ++ ln).length ≤ 200 := by rw [List.length_append]; omega
    have hsm : Small (rem lg la ++ ln) := small_app (small_rem fa.small) fn.small
    obtain ⟨v3, h3, n3, ap, O3, G3, hn3, hk3, _⟩ := app_rows (n0 := n1) (acc := vc) (vn := vn) (ls := rem lg la) (ln := ln) O2 (Sn.keep fun id hid => G02.2 id (hn.1 id hid)) (fun i hi => (hrn i hi).ext G02)
      (fun i hi id hid e => by have a := O2.take hid; have b := (hrn i hi).2 id e; have := G0.1; omega) (by omega) g2n
    simp (maxSteps := 2000000) (disch := first | omega | assumption) only [↓mCode, ↓mOps, mAll, seval, vPtr, ite_ne, wrap_i64, boundN_int, e1_tys, e1_fns, fn7, Tryz.f7, c12, sn, sv, ap]
    refine (copied23_ok O3.rowsIn (by omega) hsm).call rfl e1_subs ?_
    rintro v4 h4 n4 ⟨O4, G4⟩
    have c14 : ∀ {kk : V → Out}, cellAt h4 (n + 1) 1 kk = kk vn := cell_of ((G4.2 (n + 1) (by omega)).trans ((G3.2 (n + 1) (by omega)).trans r1)) (by omega) rfl
    simp (maxSteps := 2000000) (disch := first | omega | assumption) only [↓mCode, ↓mOps, mAll, seval, vPtr, ite_ne, wrap_i64, boundN_int, e1_tys, e1_fns, fn7, Tryz.f7, c14, sv]
    refine (sort10_ok O4.rowsIn (by omega) hsm).call rfl e1_subs ?_
    rintro v5 h5 n5 ⟨out, O5, hp, hasc, G5⟩
    have g4n := G4.1
    have g5n := G5.1
    have k1 := (G5.2 (n + 1) (by omega)).trans ((G4.2 (n + 1) (by omega)).trans ((G3.2 (n + 1) (by omega)).trans r1))
    have k2 := (G5.2 (n + 1 + 1) (by omega)).trans ((G4.2 (n + 1 + 1) (by omega)).trans ((G3.2 (n + 1 + 1) (by omega)).trans r2))
    have c15 : ∀ {kk : V → Out}, cellAt h5 (n + 1) 1 kk = kk vn := cell_of k1 (by omega) rfl
    have c35 : ∀ {kk : V → Out}, cellAt h5 (n + 1) 3 kk = kk (.bool y2) := cell_of k1 (by omega) rfl
    have o5 : oneV v5 = true := O5.rowsIn.one
    have ce5 : cellsOf v5 = [v5] := cellsOf_one o5
    simp (maxSteps := 2000000) (disch := first | omega | assumption) only [↓mCode, ↓mOps, mAll, seval, vPtr, ite_ne, wrap_i64, boundN_int, e1_tys, e1_fns, fn7, Tryz.f7, sv, c15, c35, o5, ce5, k2]
    refine K _ _ _ ⟨fun e => (by rw [hgb] at e; cases e), fun _ => ⟨v5, out, rfl, (O5.setA (by omega) k2 noInt).rowsIn, hp, hasc⟩, ⟨by have := G0.1; omega, fun j hj => ?_⟩⟩
    rw [T.get_put, if_neg (by omega), G5.2 j (by omega), G4.2 j (by omega), G3.2 j (by omega)]
    exact G02.2 j hj
end Go.Mir
