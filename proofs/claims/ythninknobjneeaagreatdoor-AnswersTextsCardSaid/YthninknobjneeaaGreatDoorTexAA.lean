/- Walks: may all terms of a row be? A row of texts that grows; a row's text. -/
import Derived.Test.YthninknobjneeaaGreatDoorTexV
import Derived.Test.YthninknobjneeaaGreatDoorTexX
import Derived.Test.YthninknobjneeaaGreatDoorTexY
set_option linter.unusedSimpArgs false
set_option linter.unusedVariables false
namespace Go.Mir
open Go Go.Proofs
set_option maxRecDepth 4000
set_option maxHeartbeats 16000000

/-- a term's text -/
def textT (x : Tm) : List Nat := if x.1 = 1 then [60] ++ x.2.1 ++ [62] else if x.1 = 2 then [95, 58] ++ x.2.1 else if x.1 = 4 then wrB x.2.1 ++ [64] ++ x.2.2 else if x.1 = 5 then wrB x.2.1 ++ [94, 94, 60] ++ x.2.2 ++ [62] else wrB x.2.1
theorem wr_len (s : List Nat) : (wrB s).length ≤ 6 * s.length + 2 := by
  have := esc_len s
  unfold wrB
  simp only [List.cons_append, List.length_cons, List.length_append, List.length_nil]; omega

theorem text02_ok {x : Tm} {h : T O} {n : Nat} (hb : ∀ c ∈ x.2.1, c < 256) (hl : x.2.1.length ≤ 160000) (hl2 : x.2.2.length ≤ 160000) : Fn env0 25 [tv x] h n (fun v h' n' => v = .str (textT x) ∧ Gro h n h' n') := by
  obtain ⟨k, s, e⟩ := x
  have hl' : s.length ≤ 160000 := hl
  have hl2' : e.length ≤ 160000 := hl2
  have hw := wr_len s
  have m64 : most64 = 9223372036854775807 := rfl
  refine Fn.mk fn25 rfl fz25 (by simp) fun Q cs K => ?_
  have GB : Gro h n (h.put n (some (.cells (ofT [V.int .i64 k, V.str s, V.str e]) 3 3))) (n + 1) := (Gro.refl h n).put _
  by_cases k1 : k = 1
  · have mk : textT (k, s, e) = [60] ++ s ++ [62] := by show (if k = 1 then _ else _) = _; rw [if_pos k1]
    have p1 : (k = 1) = True := eq_true k1
    simp (maxSteps := 2000000) (disch := first | omega | assumption) only [↓mCode, ↓mOps, mAll, seval, vPtr, ite_ne, wrap_i64, boundN_int, fn25, Tryz.f25, m64, List.map_nil, List.map_cons, decide_true, decide_false, tv, p1]
    exact K _ _ _ ⟨by rw [mk]; rfl, GB⟩
  have p1 : (k = 1) = False := eq_false k1
  by_cases k2 : k = 2
  · have mk : textT (k, s, e) = [95, 58] ++ s := by show (if k = 1 then _ else if k = 2 then _ else _) = _; rw [if_neg k1, if_pos k2]
    have p2 : (k = 2) = True := eq_true k2
    simp (maxSteps := 2000000) (disch := first | omega | assumption) only [↓mCode, ↓mOps, mAll, seval, vPtr, ite_ne, wrap_i64, boundN_int, fn25, Tryz.f25, m64, List.map_nil, List.map_cons, decide_true, decide_false, tv, p1, p2]
    exact K _ _ _ ⟨by rw [mk]; rfl, GB⟩
  have p2 : (k = 2) = False := eq_false k2
  by_cases k4 : k = 4
  · have mk : textT (k, s, e) = wrB s ++ [64] ++ e := by show (if k = 1 then _ else if k = 2 then _ else if k = 4 then _ else _) = _; rw [if_neg k1, if_neg k2, if_pos k4]
    have p4 : (k = 4) = True := eq_true k4
    simp (maxSteps := 2000000) (disch := first | omega | assumption) only [↓mCode, ↓mOps, mAll, seval, vPtr, ite_ne, wrap_i64, boundN_int, fn25, Tryz.f25, m64, List.map_nil, List.map_cons, decide_true, decide_false, tv, p1, p2, p4]
    refine W_draw sr25_7 ss25_7 ?_ ?_
    · exact sk25_7
    simp (maxSteps := 2000000) (disch := first | omega | assumption) only [↓mCode, ↓mOps, mAll, seval, vPtr, ite_ne, wrap_i64, boundN_int, fn25, Tryz.f25, m64, List.map_nil, List.map_cons, decide_true, decide_false, tv]
    refine (written02_ok hb hl').call e0_hook e0_subs ?_
    rintro _ h1 n1 ⟨rfl, G⟩
    have gn : h1.get n = some (.cells (ofT [V.int .i64 k, V.str s, V.str e]) 3 3) := by rw [G.2 n (by omega), T.get_put, if_pos rfl]
    have c2 : ∀ {k' : V → Out}, cellAt h1 n 2 k' = k' (.str e) := fun {k'} => by rw [cellAt_eq, gn]; rfl
    simp (maxSteps := 2000000) (disch := first | omega | assumption) only [↓mCode, ↓mOps, mAll, seval, vPtr, ite_ne, wrap_i64, boundN_int, fn25, Tryz.f25, m64, List.map_nil, List.map_cons, decide_true, decide_false, c2]
    exact K _ _ _ ⟨by rw [mk], GB.trans G⟩
  have p4 : (k = 4) = False := eq_false k4
  by_cases k5 : k = 5
  · have mk : textT (k, s, e) = wrB s ++ [94, 94, 60] ++ e ++ [62] := by show (if k = 1 then _ else if k = 2 then _ else if k = 4 then _ else if k = 5 then _ else _) = _; rw [if_neg k1, if_neg k2, if_neg k4, if_pos k5]
    have p5 : (k = 5) = True := eq_true k5
    simp (maxSteps := 2000000) (disch := first | omega | assumption) only [↓mCode, ↓mOps, mAll, seval, vPtr, ite_ne, wrap_i64, boundN_int, fn25, Tryz.f25, m64, List.map_nil, List.map_cons, decide_true, decide_false, tv, p1, p2, p4, p5]
    refine W_draw sr25_9 ss25_9 ?_ ?_
    · exact sk25_9
    simp (maxSteps := 2000000) (disch := first | omega | assumption) only [↓mCode, ↓mOps, mAll, seval, vPtr, ite_ne, wrap_i64, boundN_int, fn25, Tryz.f25, m64, List.map_nil, List.map_cons, decide_true, decide_false, tv]
    refine (written02_ok hb hl').call e0_hook e0_subs ?_
    rintro _ h1 n1 ⟨rfl, G⟩
    have gn : h1.get n = some (.cells (ofT [V.int .i64 k, V.str s, V.str e]) 3 3) := by rw [G.2 n (by omega), T.get_put, if_pos rfl]
    have c2 : ∀ {k' : V → Out}, cellAt h1 n 2 k' = k' (.str e) := fun {k'} => by rw [cellAt_eq, gn]; rfl
    simp (maxSteps := 2000000) (disch := first | omega | assumption) only [↓mCode, ↓mOps, mAll, seval, vPtr, ite_ne, wrap_i64, boundN_int, fn25, Tryz.f25, m64, List.map_nil, List.map_cons, decide_true, decide_false, c2]
    exact K _ _ _ ⟨by rw [mk], GB.trans G⟩
  have p5 : (k = 5) = False := eq_false k5
  have mk : textT (k, s, e) = wrB s := by show (if k = 1 then _ else if k = 2 then _ else if k = 4 then _ else if k = 5 then _ else _) = _; rw [if_neg k1, if_neg k2, if_neg k4, if_neg k5]
  simp (maxSteps := 2000000) (disch := first | omega | assumption) only [↓mCode, ↓mOps, mAll, seval, vPtr, ite_ne, wrap_i64, boundN_int, fn25, Tryz.f25, m64, List.map_nil, List.map_cons, decide_true, decide_false, tv, p1, p2, p4, p5]
  refine (written02_ok hb hl').call e0_hook e0_subs ?_
  rintro _ h1 n1 ⟨rfl, G⟩
  simp (maxSteps := 2000000) (disch := first | omega | assumption) only [↓mCode, ↓mOps, mAll, seval, vPtr, ite_ne, wrap_i64, boundN_int, fn25, Tryz.f25, m64, List.map_nil, List.map_cons, decide_true, decide_false]
  exact K _ _ _ ⟨by rw [mk], GB.trans G⟩

theorem text_ok {x : Tm} {h : T O} {n : Nat} (hb : ∀ c ∈ x.2.1, c < 256) (hl : x.2.1.length ≤ 160000) (hl2 : x.2.2.length ≤ 160000) : Fn env0 90 [tv x] h n (fun v h' n' => v = .str (textT x) ∧ Gro h n h' n') := by
  obtain ⟨k, s, e⟩ := x
  have hl' : s.length ≤ 160000 := hl
  have hl2' : e.length ≤ 160000 := hl2
  have hw := wr_len s
  have m64 : most64 = 9223372036854775807 := rfl
  refine Fn.mk fn90 rfl fz90 (by simp) fun Q cs K => ?_
  have GB : Gro h n (h.put n (some (.cells (ofT [V.int .i64 k, V.str s, V.str e]) 3 3))) (n + 1) := (Gro.refl h n).put _
  by_cases k1 : k = 1
  · have mk : textT (k, s, e) = [60] ++ s ++ [62] := by show (if k = 1 then _ else _) = _; rw [if_pos k1]
    have p1 : (k = 1) = True := eq_true k1
    simp (maxSteps := 2000000) (disch := first | omega | assumption) only [↓mCode, ↓mOps, mAll, seval, vPtr, ite_ne, wrap_i64, boundN_int, fn90, Tryz.f90, m64, List.map_nil, List.map_cons, decide_true, decide_false, tv, p1]
    exact K _ _ _ ⟨by rw [mk]; rfl, GB⟩
  have p1 : (k = 1) = False := eq_false k1
  by_cases k2 : k = 2
  · have mk : textT (k, s, e) = [95, 58] ++ s := by show (if k = 1 then _ else if k = 2 then _ else _) = _; rw [if_neg k1, if_pos k2]
    have p2 : (k = 2) = True := eq_true k2
    simp (maxSteps := 2000000) (disch := first | omega | assumption) only [↓mCode, ↓mOps, mAll, seval, vPtr, ite_ne, wrap_i64, boundN_int, fn90, Tryz.f90, m64, List.map_nil, List.map_cons, decide_true, decide_false, tv, p1, p2]
    exact K _ _ _ ⟨by rw [mk]; rfl, GB⟩
  have p2 : (k = 2) = False := eq_false k2
  by_cases k4 : k = 4
  · have mk : textT (k, s, e) = wrB s ++ [64] ++ e := by show (if k = 1 then _ else if k = 2 then _ else if k = 4 then _ else _) = _; rw [if_neg k1, if_neg k2, if_pos k4]
    have p4 : (k = 4) = True := eq_true k4
    simp (maxSteps := 2000000) (disch := first | omega | assumption) only [↓mCode, ↓mOps, mAll, seval, vPtr, ite_ne, wrap_i64, boundN_int, fn90, Tryz.f90, m64, List.map_nil, List.map_cons, decide_true, decide_false, tv, p1, p2, p4]
    refine W_draw sr90_7 ss90_7 ?_ ?_
    · exact sk90_7
    simp (maxSteps := 2000000) (disch := first | omega | assumption) only [↓mCode, ↓mOps, mAll, seval, vPtr, ite_ne, wrap_i64, boundN_int, fn90, Tryz.f90, m64, List.map_nil, List.map_cons, decide_true, decide_false, tv]
    refine (written_ok hb hl').call e0_hook e0_subs ?_
    rintro _ h1 n1 ⟨rfl, G⟩
    have gn : h1.get n = some (.cells (ofT [V.int .i64 k, V.str s, V.str e]) 3 3) := by rw [G.2 n (by omega), T.get_put, if_pos rfl]
    have c2 : ∀ {k' : V → Out}, cellAt h1 n 2 k' = k' (.str e) := fun {k'} => by rw [cellAt_eq, gn]; rfl
    simp (maxSteps := 2000000) (disch := first | omega | assumption) only [↓mCode, ↓mOps, mAll, seval, vPtr, ite_ne, wrap_i64, boundN_int, fn90, Tryz.f90, m64, List.map_nil, List.map_cons, decide_true, decide_false, c2]
    exact K _ _ _ ⟨by rw [mk], GB.trans G⟩
  have p4 : (k = 4) = False := eq_false k4
  by_cases k5 : k = 5
  · have mk : textT (k, s, e) = wrB s ++ [94, 94, 60] ++ e ++ [62] := by show (if k = 1 then _ else if k = 2 then _ else if k = 4 then _ else if k = 5 then _ else _) = _; rw [if_neg k1, if_neg k2, if_neg k4, if_pos k5]
    have p5 : (k = 5) = True := eq_true k5
    simp (maxSteps := 2000000) (disch := first | omega | assumption) only [↓mCode, ↓mOps, mAll, seval, vPtr, ite_ne, wrap_i64, boundN_int, fn90, Tryz.f90, m64, List.map_nil, List.map_cons, decide_true, decide_false, tv, p1, p2, p4, p5]
    refine W_draw sr90_9 ss90_9 ?_ ?_
    · exact sk90_9
    simp (maxSteps := 2000000) (disch := first | omega | assumption) only [↓mCode, ↓mOps, mAll, seval, vPtr, ite_ne, wrap_i64, boundN_int, fn90, Tryz.f90, m64, List.map_nil, List.map_cons, decide_true, decide_false, tv]
    refine (written_ok hb hl').call e0_hook e0_subs ?_
    rintro _ h1 n1 ⟨rfl, G⟩
    have gn : h1.get n = some (.cells (ofT [V.int .i64 k, V.str s, V.str e]) 3 3) := by rw [G.2 n (by omega), T.get_put, if_pos rfl]
    have c2 : ∀ {k' : V → Out}, cellAt h1 n 2 k' = k' (.str e) := fun {k'} => by rw [cellAt_eq, gn]; rfl
    simp (maxSteps := 2000000) (disch := first | omega | assumption) only [↓mCode, ↓mOps, mAll, seval, vPtr, ite_ne, wrap_i64, boundN_int, fn90, Tryz.f90, m64, List.map_nil, List.map_cons, decide_true, decide_false, c2]
    exact K _ _ _ ⟨by rw [mk], GB.trans G⟩
  have p5 : (k = 5) = False := eq_false k5
  have mk : textT (k, s, e) = wrB s := by show (if k = 1 then _ else if k = 2 then _ else if k = 4 then _ else if k = 5 then _ else _) = _; rw [if_neg k1, if_neg k2, if_neg k4, if_neg k5]
  simp (maxSteps := 2000000) (disch := first | omega | assumption) only [↓mCode, ↓mOps, mAll, seval, vPtr, ite_ne, wrap_i64, boundN_int, fn90, Tryz.f90, m64, List.map_nil, List.map_cons, decide_true, decide_false, tv, p1, p2, p4, p5]
  refine (written_ok hb hl').call e0_hook e0_subs ?_
  rintro _ h1 n1 ⟨rfl, G⟩
  simp (maxSteps := 2000000) (disch := first | omega | assumption) only [↓mCode, ↓mOps, mAll, seval, vPtr, ite_ne, wrap_i64, boundN_int, fn90, Tryz.f90, m64, List.map_nil, List.map_cons, decide_true, decide_false]
  exact K _ _ _ ⟨by rw [mk], GB.trans G⟩

theorem textE_ok {x : Tm} {h : T O} {n : Nat} (hb : ∀ c ∈ x.2.1, c < 256) (hl : x.2.1.length ≤ 160000) (hb2 : ∀ c ∈ x.2.2, c < 256) (hl2 : x.2.2.length ≤ 160000) (hm : mayT x = true) : Fn env0 41 [tv x] h n (fun v h' n' => v = .tuple [.str (textT x), .int .i64 0] ∧ Gro h n h' n') := by
  obtain ⟨k, s, e⟩ := x
  refine Fn.mk fn41 rfl fz41 (by simp) fun Q cs K => ?_
  have GB : Gro h n (h.put n (some (.cells (ofT [V.int .i64 k, V.str s, V.str e]) 3 3))) (n + 1) := (Gro.refl h n).put _
  simp (maxSteps := 2000000) (disch := first | omega | assumption) only [↓mCode, ↓mOps, mAll, seval, vPtr, ite_ne, wrap_i64, boundN_int, fn41, Tryz.f41, tv]
  refine (mayP_ok (x := (k, s, e)) hb (Nat.le_trans hl (by omega)) hb2 (Nat.le_trans hl2 (by omega))).call e0_hook e0_subs ?_
  rintro _ h1 n1 ⟨rfl, G⟩
  have gn : h1.get n = some (.cells (ofT [V.int .i64 k, V.str s, V.str e]) 3 3) := by rw [G.2 n (by omega), T.get_put, if_pos rfl]
  have cA : ∀ {k' : List V → Out}, cellsAt h1 n 0 3 k' = k' [.int .i64 k, .str s, .str e] := fun {k'} => by rw [cellsAt_eq, gn]; rfl
  simp (maxSteps := 2000000) (disch := first | omega | assumption) only [↓mCode, ↓mOps, mAll, seval, vPtr, ite_ne, wrap_i64, boundN_int, fn41, Tryz.f41, cA, hm, Bool.not_true, Bool.not_false]
  refine (text_ok (x := (k, s, e)) hb hl hl2).call e0_hook e0_subs ?_
  rintro _ h2 n2 ⟨rfl, G2⟩
  simp (maxSteps := 2000000) (disch := first | omega | assumption) only [↓mCode, ↓mOps, mAll, seval, vPtr, ite_ne, wrap_i64, boundN_int, fn41, Tryz.f41]
  exact K _ _ _ ⟨rfl, (GB.trans G).trans G2⟩
end Go.Mir
namespace Go.Mir
open Go Go.Proofs
set_option maxRecDepth 4000
set_option maxHeartbeats 16000000

/-- texts of bytes, not too long -/
def GdT (x : Tm) : Prop := (∀ c ∈ x.2.1, c < 256) ∧ x.2.1.length ≤ 160000 ∧ (∀ c ∈ x.2.2, c < 256) ∧ x.2.2.length ≤ 160000
def Gd (l : List Tm) : Prop := ∀ x ∈ l, GdT x
theorem Gd.at {l : List Tm} (G : Gd l) {i : Nat} (hi : i < l.length) : GdT (l.getD i (0, [], [])) := by
  rw [List.getD_eq_getElem?_getD, List.getElem?_eq_getElem hi]; exact G _ (List.getElem_mem hi)

theorem notMay_ok {x : Tm} {h : T O} {n : Nat} (g : GdT x) : Fn env0 21 [tv x] h n (fun v h' n' => v = .bool (!mayT x) ∧ Gro h n h' n') := by
  obtain ⟨k, s, e⟩ := x
  refine Fn.mk fn21 rfl fz21 (by simp) fun Q cs K => ?_
  have GB : Gro h n (h.put n (some (.cells (ofT [V.int .i64 k, V.str s, V.str e]) 3 3))) (n + 1) := (Gro.refl h n).put _
  simp (maxSteps := 2000000) (disch := first | omega | assumption) only [↓mCode, ↓mOps, mAll, seval, vPtr, ite_ne, wrap_i64, boundN_int, fn21, Tryz.f21, tv]
  refine (mayP_ok (x := (k, s, e)) g.1 (Nat.le_trans g.2.1 (by omega)) g.2.2.1 (Nat.le_trans g.2.2.2 (by omega))).call e0_hook e0_subs ?_
  rintro _ h1 n1 ⟨rfl, G⟩
  simp (maxSteps := 2000000) (disch := first | omega | assumption) only [↓mCode, ↓mOps, mAll, seval, vPtr, ite_ne, wrap_i64, boundN_int, fn21, Tryz.f21]
  exact K _ _ _ ⟨rfl, GB.trans G⟩

theorem index59_ok {h : T O} {n : Nat} {v : V} {l : List Tm} (R : RowIn h n v l) (g : Gd l) (hl : l.length ≤ 1000000) :
    Fn env0 39 [v, .func 21 [] []] h n (fun u h' n' => (∃ z : Int, u = .int .i64 z ∧ (0 ≤ z ↔ ∃ i, i < l.length ∧ mayT (l.getD i (0, [], [])) = false)) ∧ Gro h n h' n') := by
  refine Fn.mk fn39 rfl fz39 (by simp) fun Q cs K => ?_
  have len : ∀ {e : Nat} {k : V → Out}, lenIn h (.slice e) v k = k (.int .i64 (l.length : Int)) := Sl.len R.1
  simp (maxSteps := 2000000) (disch := first | omega | assumption) only [↓mCode, ↓mOps, mAll, seval, vPtr, ite_ne, wrap_i64, boundN_int, fn39, Tryz.f39, len]
  refine W_loopE (fun q regs h1 n1 => ∃ i : Nat, q = l.length - i ∧ i ≤ l.length ∧ regs.get 0 = some v ∧ regs.get 1 = some (.func 21 [] []) ∧ regs.get 7 = some (.int .i64 (l.length : Int)) ∧ regs.get 8 = some (.int .i64 (i : Int)) ∧
      (∀ j, j < i → mayT (l.getD j (0, [], [])) = true) ∧ Gro h n h1 n1)
    (fun regs h1 n1 => (∀ j, j < l.length → mayT (l.getD j (0, [], [])) = true) ∧ Gro h n h1 n1)
    _ ⟨0, rfl, by omega, ?_, ?_, ?_, ?_, fun j hj => absurd hj (by omega), Gro.refl h n⟩ ?_ ?_
  iterate 4
    · simp only [mBase, Nat.reduceEqDiff, Nat.reduceSub, reduceIte] <;> rfl
  · rintro tt hexit q regs h1 n1 ⟨i, rfl, hi, r0, r1, r7, r8, hm, G⟩ IH
    by_cases c1 : i < l.length
    · have c1' : ((i : Int) < (l.length : Int)) = True := eq_true (by omega)
      have R1 := R.ext G
      have gi := g.at c1
      obtain ⟨id, off, ex, k, lo, rfl, hlo, hc⟩ := R1.1.get c1
      simp (maxSteps := 2000000) (disch := first | omega | assumption) only [↓mCode, ↓mOps, mAll, seval, vPtr, ite_ne, wrap_i64, boundN_int, fn39, Tryz.f39, r0, r1, r7, r8, c1', ↓hc]
      generalize hx : l.getD i (0, [], []) = x at *
      refine (notMay_ok gi).call e0_hook e0_subs ?_
      rintro _ h2 n2 ⟨rfl, G2⟩
      cases b : mayT x with
      | false =>
        simp (maxSteps := 2000000) (disch := first | omega | assumption) only [↓mCode, ↓mOps, mAll, seval, vPtr, ite_ne, wrap_i64, boundN_int, fn39, Tryz.f39, r0, r1, r7, r8, b, Bool.not_false]
        exact K _ _ _ ⟨⟨_, rfl, ⟨fun _ => ⟨i, c1, by rw [hx]; exact b⟩, fun _ => by omega⟩⟩, G.trans G2⟩
      | true =>
        simp (maxSteps := 2000000) (disch := first | omega | assumption) only [↓mCode, ↓mOps, mAll, seval, vPtr, ite_ne, wrap_i64, boundN_int, fn39, Tryz.f39, r0, r1, r7, r8, b, Bool.not_true]
        refine IH (l.length - (i + 1)) _ _ _ (by omega) ⟨i + 1, rfl, by omega, ?_, ?_, ?_, ?_, fun j hj => ?_, G.trans G2⟩
        iterate 4
          · simp only [mBase, Nat.reduceEqDiff, Nat.reduceSub, reduceIte, r0, r1, r7, r8] <;> rfl
        · by_cases e : j = i
          · subst e; rw [hx]; exact b
          · exact hm j (by omega)
    · have e : i = l.length := by omega
      have c1' : ((i : Int) < (l.length : Int)) = False := eq_false (by omega)
      simp (maxSteps := 2000000) (disch := first | omega | assumption) only [↓mCode, ↓mOps, mAll, seval, vPtr, ite_ne, wrap_i64, boundN_int, fn39, Tryz.f39, r0, r1, r7, r8, c1']
      exact hexit _ _ _ ⟨fun j hj => hm j (by omega), G⟩
  · rintro regs h1 n1 ⟨hm, G⟩
    simp (maxSteps := 2000000) (disch := first | omega | assumption) only [↓mCode, ↓mOps, mAll, seval, vPtr, ite_ne, wrap_i64, boundN_int, fn39, Tryz.f39]
    refine K _ _ _ ⟨⟨_, rfl, ⟨fun q => absurd q (by omega), fun ⟨i, h1, h2⟩ => ?_⟩⟩, G⟩
    rw [hm i h1] at h2; cases h2

/-- may every term be? -/
noncomputable def mayRow (l : List Tm) : Bool := l.all mayT
theorem mayRow_false {l : List Tm} : mayRow l = false ↔ ∃ i, i < l.length ∧ mayT (l.getD i (0, [], [])) = false := by
  unfold mayRow
  rw [List.all_eq_false]
  constructor
  · rintro ⟨x, hx, h⟩
    obtain ⟨i, hi, rfl⟩ := List.getElem_of_mem hx
    exact ⟨i, hi, by rw [List.getD_eq_getElem?_getD, List.getElem?_eq_getElem hi]; simpa using h⟩
  · rintro ⟨i, hi, h⟩
    rw [List.getD_eq_getElem?_getD, List.getElem?_eq_getElem hi] at h
    exact ⟨_, List.getElem_mem hi, by simpa using h⟩
theorem mayRow_true {l : List Tm} (h : mayRow l = true) {i : Nat} (hi : i < l.length) : mayT (l.getD i (0, [], [])) = true := by
  cases e : mayT (l.getD i (0, [], [])) with
  | true => rfl
  | false => rw [mayRow_false.2 ⟨i, hi, e⟩] at h; cases h

theorem contains38_ok {h : T O} {n : Nat} {v : V} {l : List Tm} (R : RowIn h n v l) (g : Gd l) (hl : l.length ≤ 1000000) :
    Fn env0 20 [v, .func 21 [] []] h n (fun u h' n' => u = .bool (!mayRow l) ∧ Gro h n h' n') := by
  refine Fn.mk fn20 rfl fz20 (by simp) fun Q cs K => ?_
  simp (maxSteps := 2000000) (disch := first | omega | assumption) only [↓mCode, ↓mOps, mAll, seval, vPtr, ite_ne, wrap_i64, boundN_int, fn20, Tryz.f20]
  refine (index59_ok R g hl).call e0_hook e0_subs ?_
  rintro _ h1 n1 ⟨⟨z, rfl, hz⟩, G⟩
  have e : (decide (0 ≤ z)) = !mayRow l := by
    cases b : mayRow l with
    | false => rw [decide_eq_true (hz.2 (mayRow_false.1 b))]; rfl
    | true =>
      refine decide_eq_false fun q => ?_
      rw [mayRow_false.2 (hz.1 q)] at b; cases b
  simp (maxSteps := 2000000) (disch := first | omega | assumption) only [↓mCode, ↓mOps, mAll, seval, vPtr, ite_ne, wrap_i64, boundN_int, fn20, Tryz.f20]
  exact K _ _ _ ⟨by rw [e], G⟩

theorem src33 {id off len kk lo : Nat} {ex : Bool} : srcTy tys 22 (.slice id off len ex kk lo) = true := (by kernel_rfl : srcTy tys 22 (.slice 0 0 0 true 0 0) = true)
/- a row of texts of the run's own making -/
def SBuf (h : T O) (n n0 : Nat) (v : V) (l : List (List Nat)) : Prop :=
  n0 ≤ n ∧ ((v = .base (.slice none 0 0) ∧ l = []) ∨ ∃ id, v = .slice id 0 l.length false 0 l.length ∧ h.get id = some (.cells (ofT (l.map V.str)) l.length 1) ∧ n0 ≤ id ∧ id < n)
theorem SBuf.nil {h : T O} {n n0 : Nat} (hn : n0 ≤ n) : SBuf h n n0 (.base (.slice none 0 0)) [] := ⟨hn, .inl ⟨rfl, rfl⟩⟩
theorem allOne_str : ∀ l : List (List Nat), allOne (l.map V.str) = true
  | [] => rfl
  | _ :: l => by show and true (allOne (l.map V.str)) = true; rw [allOne_str l]; rfl
theorem SBuf.ext {h h' : T O} {n n' n0 : Nat} {v : V} {l : List (List Nat)} (B : SBuf h n n0 v l) (G : Gro h n h' n') : SBuf h' n' n0 v l := by
  obtain ⟨h0, B⟩ := B
  refine ⟨Nat.le_trans h0 G.1, ?_⟩
  rcases B with ⟨e1, e2⟩ | ⟨id, e1, hg, h1, h2⟩
  · exact .inl ⟨e1, e2⟩
  · exact .inr ⟨id, e1, by rw [G.2 id h2, hg], h1, Nat.lt_of_lt_of_le h2 G.1⟩

/-- a text behind it -/
theorem SBuf.app {h : T O} {n n0 : Nat} {v : V} {l : List (List Nat)} {x : List Nat} (B : SBuf h n n0 v l) (hl : l.length + 1 ≤ 1000000) :
    ∃ v' h', (∀ {k : Kv}, appendK tys (h.put n (some (.cells (ofT [.str x]) 1 1))) (n + 1) 22 v (.slice n 0 1 true 1 1) k = k v' h' (n + 1 + 1)) ∧ SBuf h' (n + 1 + 1) n0 v' (l ++ [x]) ∧ (∀ j, j < n0 → h'.get j = h.get j) ∧ (∀ j, j < n → Mir.vid v ≠ some j → h'.get j = h.get j) ∧ Mir.vid v' = some (n + 1) := by
  obtain ⟨h0, B⟩ := B
  have gn : (h.put n (some (.cells (ofT [V.str x]) 1 1))).get n = some (.cells (ofT [V.str x]) 1 1) := by rw [T.get_put, if_pos rfl]
  have e2 : ∀ {kk : List V → Out}, cellsAt (h.put n (some (.cells (ofT [V.str x]) 1 1))) n 0 (1 * 1) kk = kk [V.str x] := fun {kk} => cells_of gn rfl
  rcases B with ⟨rfl, rfl⟩ | ⟨id, rfl, hg, h1, h2⟩
  · refine ⟨.slice (n + 1) 0 1 false 0 1, (h.put n (some (.cells (ofT [V.str x]) 1 1))).put (n + 1) (some (.cells (ofT [V.str x]) 1 1)), ?_, ⟨by omega, .inr ⟨n + 1, rfl, by rw [T.get_put, if_pos rfl]; rfl, by omega, by omega⟩⟩, ?_, ?_, rfl⟩
    · intro k
      rw [appendK_base, sliceTy_eq, ty22, om_some, slTy_slice, ty9, om_some, srcK_slice, e2, app0_nil]
      rw [need_and, need_beq rfl, need_beq rfl, if_neg (by omega), growK_eq, need_ble (by omega)]; rfl
    · intro j hj
      rw [T.get_put, if_neg (by omega), T.get_put, if_neg (by omega)]
    · intro j hj _
      rw [T.get_put, if_neg (by omega), T.get_put, if_neg (by omega)]
  · have c2 : (l.length + 1 ≤ l.length) = False := eq_false (by omega)
    have gid : (h.put n (some (.cells (ofT [V.str x]) 1 1))).get id = some (.cells (ofT (l.map V.str)) l.length 1) := by rw [T.get_put, if_neg (by omega), hg]
    have e1 : ∀ {kk : List V → Out}, cellsAt (h.put n (some (.cells (ofT [V.str x]) 1 1))) id 0 (l.length * 1) kk = kk (l.map V.str) := fun {kk} => by rw [Nat.mul_one]; exact cells_of gid (by simp)
    have eM : l.map V.str ++ [V.str x] = (l ++ [x]).map V.str := by simp
    have eN : l.length + 1 = (l ++ [x]).length := by simp
    have a1 : allOne (l.map V.str ++ [V.str x]) = true := by rw [eM]; exact allOne_str _
    refine ⟨.slice (n + 1) 0 (l.length + 1) false 0 (l.length + 1), ((h.put n (some (.cells (ofT [V.str x]) 1 1))).put id none).put (n + 1) (some (.cells (ofT (l.map V.str ++ [V.str x])) (l.map V.str ++ [V.str x]).length 1)), ?_, ?_, ?_, ?_, rfl⟩
    · intro k
      rw [appendK_slice, sliceTy_eq, ty22, om_some, slTy_slice, ty9, om_some, srcK_slice, e2, app1_eq]
      simp only [c2, if_false]
      rw [e1]
      show app2 _ _ _ _ _ _ _ _ _ = _
      rw [app2_eq, gid, om_some, oCells_cells, need_and, need_and, need_beq rfl, need_beq rfl, a1]
      show growK _ _ _ _ _ _ = _
      rw [growK_eq, need_ble (by omega)]
    · rw [eM, List.length_map, eN]
      exact ⟨by omega, .inr ⟨n + 1, rfl, by rw [T.get_put, if_pos rfl], by omega, by omega⟩⟩
    · intro j hj
      rw [T.get_put, if_neg (by omega), T.get_put, if_neg (by omega), T.get_put, if_neg (by omega)]
    · intro j hj hv
      have hv' : j ≠ id := fun e => hv (by rw [e]; rfl)
      rw [T.get_put, if_neg (by omega), T.get_put, if_neg hv', T.get_put, if_neg (by omega)]

theorem SBuf.sl {h : T O} {n n0 : Nat} {v : V} {l : List (List Nat)} (B : SBuf h n n0 v l) : Sl h 1 (fun j => .str (l.getD j [])) v l.length := by
  obtain ⟨h0, B⟩ := B
  rcases B with ⟨rfl, rfl⟩ | ⟨id, rfl, hg, h1, h2⟩
  · exact .nil none
  · refine .slice _ _ _ _ _ _ (Nat.le_refl _) ⟨_, _, _, _, hg, .inl rfl, by omega, fun j hj => ?_⟩
    show _ = some (V.str (l.getD j []))
    rw [Nat.zero_add, ofT_get, List.getElem?_map, List.getD_eq_getElem?_getD, List.getElem?_eq_getElem (by omega)]; rfl
theorem SBuf.strs {h : T O} {n n0 : Nat} {v : V} {l : List (List Nat)} (B : SBuf h n n0 v l) : strsOf h v = some l := by
  obtain ⟨h0, B⟩ := B
  rcases B with ⟨rfl, rfl⟩ | ⟨id, rfl, hg, h1, h2⟩
  · rfl
  · show (match h.get id with | some (.cells t m 1) => if 0 + l.length ≤ m ∧ l.length ≤ l.length then strsFrom t l.length 0 else none | _ => none) = _
    rw [hg]
    show (if 0 + l.length ≤ l.length ∧ l.length ≤ l.length then strsFrom (ofT (l.map V.str)) l.length 0 else none) = _
    rw [if_pos ⟨by omega, Nat.le_refl _⟩]
    refine strsFrom_ok fun j hj => ?_
    rw [Nat.zero_add, ofT_get, List.getElem?_map, List.getD_eq_getElem?_getD, List.getElem?_eq_getElem (by omega)]; rfl
theorem SBuf.vid {h : T O} {n n0 : Nat} {v : V} {l : List (List Nat)} (B : SBuf h n n0 v l) : ∀ id, Mir.vid v = some id → id < n := by
  obtain ⟨h0, B⟩ := B
  rcases B with ⟨rfl, rfl⟩ | ⟨id, rfl, hg, h1, h2⟩
  · intro i hi; cases hi
  · intro i hi; cases hi; exact h2

theorem joinL_snoc {sep x : List Nat} : ∀ {l : List (List Nat)}, l ≠ [] → joinL sep (l ++ [x]) = joinL sep l ++ sep ++ x
  | [], h => absurd rfl h
  | [a], _ => rfl
  | a :: b :: l, _ => by
    show a ++ sep ++ joinL sep ((b :: l) ++ [x]) = a ++ sep ++ joinL sep (b :: l) ++ sep ++ x
    rw [joinL_snoc (l := b :: l) (by simp)]; simp only [List.append_assoc]
theorem joinL_len {sep : List Nat} {B : Nat} : ∀ {l : List (List Nat)}, (∀ x ∈ l, x.length ≤ B) → (joinL sep l).length ≤ l.length * (B + sep.length)
  | [], _ => by simp [joinL]
  | [a], h => by
    have := h a (by simp)
    simp only [joinL, List.length_cons, List.length_nil]; omega
  | a :: b :: l, h => by
    have h1 := h a (by simp)
    have ih := joinL_len (sep := sep) (l := b :: l) fun x hx => h x (by simp [hx])
    simp only [joinL, List.length_append]
    rw [List.length_cons, Nat.succ_mul]
    omega
theorem textT_len {x : Tm} (g : GdT x) : (textT x).length ≤ 1200000 := by
  have hw := wr_len x.2.1
  have h1 := g.2.1
  have h2 := g.2.2.2
  unfold textT
  repeat' split
  all_goals
    try simp only [List.length_append, List.length_cons, List.length_nil]
    omega
/-- a row's text -/
def rowT (l : List Tm) : List Nat := joinL [32] (l.map textT)
theorem rowT_len {l : List Tm} (g : Gd l) (hl : l.length ≤ 100) : (rowT l).length ≤ 130000000 := by
  have := joinL_len (sep := [32]) (B := 1200000) (l := l.map textT) fun x hx => by
    obtain ⟨y, hy, rfl⟩ := List.mem_map.1 hx
    exact textT_len (g y hy)
  rw [List.length_map, List.length_singleton] at this
  have h2 := Nat.mul_le_mul_right (1200000 + 1) hl
  unfold rowT; omega
end Go.Mir
