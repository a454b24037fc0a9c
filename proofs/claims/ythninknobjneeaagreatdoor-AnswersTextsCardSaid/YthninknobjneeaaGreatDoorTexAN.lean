/- Walks: an answer's lines. -/
import Derived.Test.YthninknobjneeaaGreatDoorTexAA
import Derived.Test.YthninknobjneeaaGreatDoorTexAJ
import Derived.Test.YthninknobjneeaaGreatDoorTexAM
set_option linter.unusedSimpArgs false
set_option linter.unusedVariables false
namespace Go.Mir
open Go Go.Proofs
set_option maxRecDepth 4000
set_option maxHeartbeats 16000000

theorem join_hook {h : T O} {v : V} {l : List (List Nat)} {sep : List Nat} (hs : strsOf h v = some l) (h1 : l.length ≤ 1000000000) (h2 : (joinL sep l).length ≤ 1000000000) : env0.hook 42 [v, .str sep] h = some (.str (joinL sep l)) := by
  show joinHook [v, .str sep] h = _
  unfold joinHook
  simp only [hs]
  rw [if_pos ⟨h1, h2⟩]

theorem take_snoc {l : List Tm} {i : Nat} (hi : i < l.length) : (l.take (i + 1)).map textT = (l.take i).map textT ++ [textT (l.getD i (0, [], []))] := by
  rw [List.take_succ_eq_append_getElem hi, List.map_append, List.getD_eq_getElem?_getD, List.getElem?_eq_getElem hi]; rfl

theorem nameR_ok {h : T O} {n : Nat} {v : V} {l : List Tm} (R : RowIn h n v l) (g : Gd l) (hl : l.length ≤ 100) (hm : mayRow l = true) :
    Fn env0 23 [v] h n (fun u h' n' => u = .str (rowT l) ∧ Gro h n h' n') := by
  refine Fn.mk fn23 rfl fz23 (by simp) fun Q cs K => ?_
  have len : ∀ {e : Nat} {k : V → Out}, lenIn h (.slice e) v k = k (.int .i64 (l.length : Int)) := Sl.len R.1
  simp (maxSteps := 2000000) (disch := first | omega | assumption) only [↓mCode, ↓mOps, mAll, seval, vPtr, ite_ne, wrap_i64, boundN_int, fn23, Tryz.f23, len]
  refine W_loopE (fun q regs h1 n1 => ∃ (i : Nat) (u : V), q = l.length - i ∧ i ≤ l.length ∧ regs.get 3 = some u ∧ regs.get 8 = some v ∧ regs.get 9 = some (.int .i64 (l.length : Int)) ∧ regs.get 10 = some (.int .i64 (i : Int)) ∧
      SBuf h1 n1 n u ((l.take i).map textT) ∧ Gro h n h1 n1)
    (fun regs h1 n1 => ∃ u : V, regs.get 3 = some u ∧ SBuf h1 n1 n u (l.map textT) ∧ Gro h n h1 n1)
    _ ⟨0, _, rfl, by omega, ?_, ?_, ?_, ?_, SBuf.nil (Nat.le_refl _), Gro.refl h n⟩ ?_ ?_
  iterate 4
    · simp only [mBase, Nat.reduceEqDiff, Nat.reduceSub, reduceIte] <;> rfl
  · rintro tt hexit q regs h1 n1 ⟨i, u, rfl, hi, r3, r8, r9, r10, B, G⟩ IH
    by_cases c1 : i < l.length
    · have c1' : ((i : Int) < (l.length : Int)) = True := eq_true (by omega)
      have R1 := R.ext G
      have gi := g.at c1
      have mi := mayRow_true hm c1
      have ts := take_snoc c1
      have tl : ((l.take i).map textT).length = i := by rw [List.length_map, List.length_take]; omega
      obtain ⟨id, off, ex, k, lo, rfl, hlo, hc⟩ := R1.1.get c1
      simp (maxSteps := 2000000) (disch := first | omega | assumption) only [↓mCode, ↓mOps, mAll, seval, vPtr, ite_ne, wrap_i64, boundN_int, fn23, Tryz.f23, r3, r8, r9, r10, c1', ↓hc]
      generalize hx : l.getD i (0, [], []) = x at *
      obtain ⟨k, s, e⟩ := x
      refine (textE_ok (x := (k, s, e)) gi.1 gi.2.1 gi.2.2.1 gi.2.2.2 mi).call e0_hook e0_subs ?_
      rintro _ h2 n2 ⟨rfl, G2⟩
      have G12 : Gro h1 n1 h2 n2 := (((Gro.refl h1 n1).put _).set (Nat.le_refl _) _).trans G2
      obtain ⟨v2, h3, ap, B3, k3, _⟩ := (B.ext G12).app (x := textT (k, s, e)) (by omega)
      simp (maxSteps := 2000000) (disch := first | omega | assumption) only [↓mCode, ↓mOps, mAll, seval, vPtr, ite_ne, wrap_i64, boundN_int, fn23, Tryz.f23, r3, r8, r9, r10, src33, ap]
      refine IH (l.length - (i + 1)) _ _ _ (by omega) ⟨i + 1, v2, rfl, by omega, ?_, ?_, ?_, ?_, by rw [ts]; exact B3, ?_⟩
      iterate 4
        · simp only [mBase, Nat.reduceEqDiff, Nat.reduceSub, reduceIte, r3, r8, r9, r10] <;> rfl
      · have G02 := G.trans G12
        exact ⟨by have := G02.1; omega, fun j hj => by rw [k3 j hj, G02.2 j hj]⟩
    · have e : i = l.length := by omega
      have c1' : ((i : Int) < (l.length : Int)) = False := eq_false (by omega)
      subst e
      simp (maxSteps := 2000000) (disch := first | omega | assumption) only [↓mCode, ↓mOps, mAll, seval, vPtr, ite_ne, wrap_i64, boundN_int, fn23, Tryz.f23, r3, r8, r9, r10, c1']
      exact hexit _ _ _ ⟨u, by simp only [mBase, Nat.reduceEqDiff, Nat.reduceSub, reduceIte, r3], by rwa [List.take_length] at B, G⟩
  · rintro regs h1 n1 ⟨u, r3, B, G⟩
    have hj := rowT_len g hl
    have ej : ∀ {fr : Fr} {cs : List Fr} {go : Go_} {fin : Kv}, enterK env0 42 [u, .str [32]] fr cs h1 n1 go fin = fin (.str (rowT l)) h1 n1 := enterK_hook (join_hook B.strs (by rw [List.length_map]; omega) (Nat.le_trans hj (by omega)))
    simp (maxSteps := 2000000) (disch := first | omega | assumption) only [↓mCode, ↓mOps, mAll, seval, vPtr, ite_ne, wrap_i64, boundN_int, fn23, Tryz.f23, List.map_nil, List.map_cons, r3, ej]
    exact K _ _ _ ⟨rfl, G⟩

/-- what RowText says -/
noncomputable def rowV (l : List Tm) : V := if mayRow l = true then .tuple [.str (rowT l), .int .i64 0] else .tuple [.str [], .int .i64 2]

theorem rowText_ok {h : T O} {n : Nat} {v : V} {l : List Tm} (R : RowIn h n v l) (g : Gd l) (hl : l.length ≤ 100) :
    Fn env0 10 [v] h n (fun u h' n' => u = rowV l ∧ Gro h n h' n') := by
  refine Fn.mk fn10 rfl fz10 (by simp) fun Q cs K => ?_
  simp (maxSteps := 2000000) (disch := first | omega | assumption) only [↓mCode, ↓mOps, mAll, seval, vPtr, ite_ne, wrap_i64, boundN_int, fn10, Tryz.f10]
  refine (contains38_ok R g (by omega)).call e0_hook e0_subs ?_
  rintro _ h1 n1 ⟨rfl, G⟩
  cases b : mayRow l with
  | false =>
    simp (maxSteps := 2000000) (disch := first | omega | assumption) only [↓mCode, ↓mOps, mAll, seval, vPtr, ite_ne, wrap_i64, boundN_int, fn10, Tryz.f10, b, Bool.not_false, List.map_nil]
    exact K _ _ _ ⟨by unfold rowV; rw [b]; rfl, G⟩
  | true =>
    simp (maxSteps := 2000000) (disch := first | omega | assumption) only [↓mCode, ↓mOps, mAll, seval, vPtr, ite_ne, wrap_i64, boundN_int, fn10, Tryz.f10, b, Bool.not_true, List.map_nil]
    refine (nameR_ok (R.ext G) g hl b).call e0_hook e0_subs ?_
    rintro _ h2 n2 ⟨rfl, G2⟩
    simp (maxSteps := 2000000) (disch := first | omega | assumption) only [↓mCode, ↓mOps, mAll, seval, vPtr, ite_ne, wrap_i64, boundN_int, fn10, Tryz.f10]
    exact K _ _ _ ⟨by unfold rowV; rw [b]; rfl, G.trans G2⟩

theorem rowText20_ok {h : T O} {n : Nat} {v : V} {l : List Tm} (R : RowIn h n v l) (g : Gd l) (hl : l.length ≤ 100) :
    Fn env0 11 [v] h n (fun u h' n' => u = rowV l ∧ Gro h n h' n') := by
  refine Fn.mk fn11 rfl fz11 (by simp) fun Q cs K => ?_
  have m64 : most64 = 9223372036854775807 := rfl
  simp (maxSteps := 2000000) (disch := first | omega | assumption) only [↓mCode, ↓mOps, mAll, seval, vPtr, ite_ne, wrap_i64, boundN_int, fn11, Tryz.f11, List.map_nil, List.map_cons]
  refine W_loopE (fun q regs h1 n1 => ∃ (i : Nat), q = l.length - i ∧ i ≤ l.length ∧ regs.get 0 = some v ∧ regs.get 4 = some (.str (joinL [32] ((l.take i).map textT))) ∧ regs.get 5 = some (.int .i64 (i : Int)) ∧
      (∀ j, j < i → mayT (l.getD j (0, [], [])) = true) ∧ Gro h n h1 n1)
    (fun regs h1 n1 => regs.get 4 = some (.str (rowT l)) ∧ (∀ j, j < l.length → mayT (l.getD j (0, [], [])) = true) ∧ Gro h n h1 n1)
    _ ⟨0, rfl, by omega, ?_, ?_, ?_, fun j hj => absurd hj (by omega), Gro.refl h n⟩ ?_ ?_
  iterate 3
    · simp only [mBase, Nat.reduceEqDiff, Nat.reduceSub, reduceIte] <;> rfl
  · rintro tt hexit q regs h1 n1 ⟨i, rfl, hi, r0, r4, r5, hm, G⟩ IH
    have len : ∀ {e : Nat} {k : V → Out}, lenIn h1 (.slice e) v k = k (.int .i64 (l.length : Int)) := Sl.len (R.ext G).1
    by_cases c1 : i < l.length
    · have c1' : ((i : Int) < (l.length : Int)) = True := eq_true (by omega)
      have R1 := R.ext G
      have gi := g.at c1
      have ts := take_snoc c1
      have jl := joinL_len (sep := [32]) (B := 1200000) (l := (l.take i).map textT) fun y hy => by
        obtain ⟨z, hz, rfl⟩ := List.mem_map.1 hy
        exact textT_len (g z (List.mem_of_mem_take hz))
      have tl : ((l.take i).map textT).length = i := by rw [List.length_map, List.length_take]; omega
      have hjl : (joinL [32] ((l.take i).map textT)).length ≤ 100 * 1200001 := Nat.le_trans jl (by rw [tl, List.length_singleton]; exact Nat.mul_le_mul_right _ (by omega))
      have i1 : (i : Int) + 1 = ((i + 1 : Nat) : Int) := by omega
      have jn : i = 0 → joinL [32] ((l.take i).map textT) = [] := fun e => by subst e; rfl
      have js : 0 < i → joinL [32] ((l.take (i + 1)).map textT) = joinL [32] ((l.take i).map textT) ++ [32] ++ textT (l.getD i (0, [], [])) := fun e => by
        rw [ts, joinL_snoc]; intro e2; rw [e2] at tl; simp at tl; omega
      have j0 : i = 0 → joinL [32] ((l.take (i + 1)).map textT) = textT (l.getD i (0, [], [])) := fun e => by
        rw [ts, show (l.take i).map textT = [] from by subst e; rfl]; rfl
      generalize joinL [32] ((l.take i).map textT) = J at *
      obtain ⟨id, off, ex, k, lo, rfl, hlo, hc⟩ := R1.1.get c1
      simp (maxSteps := 2000000) (disch := first | omega | assumption) only [↓mCode, ↓mOps, mAll, seval, vPtr, ite_ne, wrap_i64, boundN_int, fn11, Tryz.f11, List.map_nil, List.map_cons, r0, r4, r5, c1', len, ↓hc]
      have R1g := R1.1.get c1
      generalize hx : l.getD i (0, [], []) = x at *
      have gl := textT_len gi
      refine (may02_ok gi.1 (Nat.le_trans gi.2.1 (by omega)) gi.2.2.1 (Nat.le_trans gi.2.2.2 (by omega))).call e0_hook e0_subs ?_
      rintro _ h2 n2 ⟨rfl, G2⟩
      cases b : mayT x with
      | false =>
        simp (maxSteps := 2000000) (disch := first | omega | assumption) only [↓mCode, ↓mOps, mAll, seval, vPtr, ite_ne, wrap_i64, boundN_int, fn11, Tryz.f11, List.map_nil, r0, r4, r5, b, Bool.not_false]
        refine K _ _ _ ⟨?_, G.trans G2⟩
        unfold rowV
        rw [mayRow_false.2 ⟨i, c1, by rw [hx]; exact b⟩]; rfl
      | true =>
        have hc2 : ∀ {kk : List V → Out}, cellsAt h2 id (off + i * 3) 3 kk = kk [.int .i64 x.1, .str x.2.1, .str x.2.2] := fun {kk} => by
          have he : h2.get id = h1.get id := G2.2 id (R1.2 id rfl)
          rw [cellsAt_eq, he, ← cellsAt_eq]; exact hc kk
        have fin : ∀ (rg : T V) (h' : T O) (n' : Nat), rg.get 0 = some (.slice id off l.length ex k lo) → rg.get 4 = some (.str (joinL [32] ((l.take (i + 1)).map textT))) → rg.get 5 = some (.int .i64 ((i + 1 : Nat) : Int)) → Gro h2 n2 h' n' →
            ∃ i' : Nat, l.length - (i + 1) = l.length - i' ∧ i' ≤ l.length ∧ rg.get 0 = some (.slice id off l.length ex k lo) ∧ rg.get 4 = some (.str (joinL [32] ((l.take i').map textT))) ∧ rg.get 5 = some (.int .i64 (i' : Int)) ∧
              (∀ j, j < i' → mayT (l.getD j (0, [], [])) = true) ∧ Gro h n h' n' := fun rg h' n' a0 a4 a5 G3 =>
          ⟨i + 1, rfl, by omega, a0, a4, a5, fun j hj => by
            by_cases e : j = i
            · subst e; rw [hx]; exact b
            · exact hm j (by omega), (G.trans G2).trans G3⟩
        by_cases z : 0 < i
        · have z' : ((0 : Int) < (i : Int)) = True := eq_true (by omega)
          rw [js z] at fin
          simp (maxSteps := 2000000) (disch := first | omega | assumption) only [↓mCode, ↓mOps, mAll, seval, vPtr, ite_ne, wrap_i64, boundN_int, fn11, Tryz.f11, List.map_nil, List.map_cons, r0, r4, r5, b, Bool.not_true, z', m64, ↓hc2]
          refine (text02_ok gi.1 gi.2.1 gi.2.2.2).call e0_hook e0_subs ?_
          rintro _ h3 n3 ⟨rfl, G3⟩
          simp (maxSteps := 2000000) (disch := first | omega | assumption) only [↓mCode, ↓mOps, mAll, seval, vPtr, ite_ne, wrap_i64, boundN_int, fn11, Tryz.f11, r0, r4, r5, m64, i1]
          refine IH (l.length - (i + 1)) _ _ _ (by omega) (fin _ _ _ ?_ ?_ ?_ G3)
          iterate 3
            · simp only [mBase, Nat.reduceEqDiff, Nat.reduceSub, reduceIte, r0, r4, r5] <;> rfl
        · have z' : ((0 : Int) < (i : Int)) = False := eq_false (by omega)
          rw [j0 (by omega)] at fin
          have J0 := jn (by omega)
          simp (maxSteps := 2000000) (disch := first | omega | assumption) only [↓mCode, ↓mOps, mAll, seval, vPtr, ite_ne, wrap_i64, boundN_int, fn11, Tryz.f11, List.map_nil, List.map_cons, r0, r4, r5, b, Bool.not_true, z', m64, ↓hc2, J0]
          refine (text02_ok gi.1 gi.2.1 gi.2.2.2).call e0_hook e0_subs ?_
          rintro _ h3 n3 ⟨rfl, G3⟩
          simp (maxSteps := 2000000) (disch := first | omega | assumption) only [↓mCode, ↓mOps, mAll, seval, vPtr, ite_ne, wrap_i64, boundN_int, fn11, Tryz.f11, r0, r4, r5, m64, i1]
          refine IH (l.length - (i + 1)) _ _ _ (by omega) (fin _ _ _ ?_ ?_ ?_ G3)
          iterate 3
            · simp only [mBase, Nat.reduceEqDiff, Nat.reduceSub, reduceIte, r0, r4, r5] <;> rfl
    · have e : i = l.length := by omega
      have c1' : ((i : Int) < (l.length : Int)) = False := eq_false (by omega)
      simp (maxSteps := 2000000) (disch := first | omega | assumption) only [↓mCode, ↓mOps, mAll, seval, vPtr, ite_ne, wrap_i64, boundN_int, fn11, Tryz.f11, r0, r4, r5, len, c1']
      exact hexit _ _ _ ⟨by simp only [mBase, Nat.reduceEqDiff, Nat.reduceSub, reduceIte, r4]; unfold rowT; rw [e, List.take_length], fun j hj => hm j (by omega), G⟩
  · rintro regs h1 n1 ⟨r4, hm, G⟩
    simp (maxSteps := 2000000) (disch := first | omega | assumption) only [↓mCode, ↓mOps, mAll, seval, vPtr, ite_ne, wrap_i64, boundN_int, fn11, Tryz.f11, r4]
    refine K _ _ _ ⟨?_, G⟩
    have : mayRow l = true := by
      cases b : mayRow l with
      | true => rfl
      | false =>
        obtain ⟨i, h1, h2⟩ := mayRow_false.1 b
        rw [hm i h1] at h2; cases h2
    unfold rowV; rw [this]; rfl
end Go.Mir
namespace Go.Mir
open Go Go.Proofs
set_option maxRecDepth 4000
set_option maxHeartbeats 16000000

noncomputable def mayRows (rows : List (List Tm)) : Bool := rows.all mayRow
theorem mayRows_f {rows : List (List Tm)} {i : Nat} (hi : i < rows.length) (h : mayRow (rows.getD i []) = false) : mayRows rows = false := by
  unfold mayRows
  rw [List.all_eq_false]
  rw [List.getD_eq_getElem?_getD, List.getElem?_eq_getElem hi] at h
  exact ⟨_, List.getElem_mem hi, by simpa using h⟩
theorem mayRows_t {rows : List (List Tm)} (h : ∀ i, i < rows.length → mayRow (rows.getD i []) = true) : mayRows rows = true := by
  unfold mayRows
  rw [List.all_eq_true]
  intro x hx
  obtain ⟨i, hi, rfl⟩ := List.getElem_of_mem hx
  have := h i hi
  rwa [List.getD_eq_getElem?_getD, List.getElem?_eq_getElem hi] at this
/-- an answer's lines, and the refusal -/
noncomputable def linesE (ok ask yes : Bool) (rows : List (List Tm)) : List (List Nat) × Int :=
  if ok = true then (if ask = true then ([if yes = true then [121, 101, 115] else [110, 111]], 0) else if mayRows rows = true then (rows.map rowT, 0) else ([], 2)) else ([], 2)
def GdRows (rows : List (List Tm)) : Prop := ∀ i, i < rows.length → Gd (rows.getD i []) ∧ (rows.getD i []).length ≤ 100
theorem take_snocR {rows : List (List Tm)} {i : Nat} (hi : i < rows.length) : (rows.take (i + 1)).map rowT = (rows.take i).map rowT ++ [rowT (rows.getD i [])] := by
  rw [List.take_succ_eq_append_getElem hi, List.map_append, List.getD_eq_getElem?_getD, List.getElem?_eq_getElem hi]; rfl
theorem load_4 {a b c d : V} {k : List V → Out} : loadN (ofT [a, b, c, d]) 0 4 k = k [a, b, c, d] := (loadN_ofT (by simp)).trans rfl
theorem keyOk_bool {a : Bool} : keyOk (.bool a) = true := rfl
theorem SBuf.str {h : T O} {n n0 : Nat} {v : V} {l : List (List Nat)} (B : SBuf h n n0 v l) : StrIn h n v l := ⟨B.sl, B.vid⟩
theorem StrIn.nil {h : T O} {n : Nat} : StrIn h n (.base (.slice none 0 0)) [] := ⟨.nil none, fun i hi => by cases hi⟩
theorem StrIn.one {h : T O} {n m : Nat} {s : List Nat} (hg : h.get m = some (.cells (ofT [V.str s]) 1 1)) (hm : m < n) : StrIn h n (.slice m 0 1 true 1 1) [s] := by
  refine ⟨.slice _ _ _ _ _ _ (Nat.le_refl _) ⟨_, _, _, _, hg, .inl rfl, by omega, fun j hj => ?_⟩, fun i hi => by cases hi; exact hm⟩
  obtain rfl : j = 0 := by omega
  rw [ofT_get]; rfl

theorem lines17_ok {h : T O} {n : Nat} {vv vb vr : V} {ask dist yes : Bool} {vars : List (List Nat)} {body : List LitT} {rows : List (List Tm)} (Rv : StrIn h n vv vars) (Rb : LitIn h n vb body) (Rr : RowsIn h n vr rows)
    (gb : ∀ i, i < body.length → GdL (body.getD i zLit)) (gr : GdRows rows) (hr : rows.length ≤ 100) :
    Fn env0 7 [.agg [.bool ask, .bool dist, vv, vb], .agg [.bool yes, vr]] h n (fun v h' n' => (∃ lv, v = .tuple [lv, .int .i64 (linesE (mayQ ask dist vars body) ask yes rows).2] ∧ StrIn h' n' lv (linesE (mayQ ask dist vars body) ask yes rows).1) ∧ Gro h n h' n') := by
  refine Fn.mk fn7 rfl fz7 (by simp) fun Q cs K => ?_
  have lenR : ∀ {hh : T O} {e : Nat} {k : V → Out}, lenIn hh (.slice e) vr k = k (.int .i64 (rows.length : Int)) := fun {hh e k} => by
    obtain ⟨_, g, S, _⟩ := Rr
    exact S.lenA
  generalize hhB : (h.put n (some (.cells (ofT [V.bool ask, V.bool dist, vv, vb]) 4 4))).put (n + 1) (some (.cells (ofT [V.bool yes, vr]) 2 2)) = hB
  have GB : Gro h n hB (n + 1 + 1) := by rw [← hhB]; exact ((Gro.refl h n).put _).put _
  have gq : hB.get n = some (.cells (ofT [V.bool ask, V.bool dist, vv, vb]) 4 4) := by rw [← hhB, T.get_put, if_neg (by omega), T.get_put, if_pos rfl]
  have ga : hB.get (n + 1) = some (.cells (ofT [V.bool yes, vr]) 2 2) := by rw [← hhB, T.get_put, if_pos rfl]
  have q4 : ∀ {kk : List V → Out}, cellsAt hB n 0 4 kk = kk [V.bool ask, V.bool dist, vv, vb] := fun {kk} => by
    rw [cellsAt_eq, gq, om_some, rCells_cells, need_ble (by omega)]; exact load_4
  simp (maxSteps := 2000000) (disch := first | omega | assumption) only [↓mCode, ↓mOps, mAll, seval, vPtr, ite_ne, wrap_i64, boundN_int, fn7, Tryz.f7, List.map_nil, List.map_cons, Bool.not_true, Bool.not_false, decide_true, decide_false, hhB, q4]
  refine (mayQ36_ok (Rv.ext GB) (Rb.ext GB) gb).call e0_hook e0_subs ?_
  rintro _ h1 n1 ⟨rfl, G1⟩
  have G01 : Gro h n h1 n1 := GB.trans G1
  have gq1 : h1.get n = some (.cells (ofT [V.bool ask, V.bool dist, vv, vb]) 4 4) := by rw [G1.2 n (by omega)]; exact gq
  have ga1 : h1.get (n + 1) = some (.cells (ofT [V.bool yes, vr]) 2 2) := by rw [G1.2 (n + 1) (by omega)]; exact ga
  have f0 : ∀ {kk : V → Out}, cellAt h1 n 0 kk = kk (.bool ask) := fun {kk} => cell_of gq1 (by omega) rfl
  have y0 : ∀ {kk : V → Out}, cellAt h1 (n + 1) 0 kk = kk (.bool yes) := fun {kk} => cell_of ga1 (by omega) rfl
  have y1 : ∀ {kk : V → Out}, cellAt h1 (n + 1) 1 kk = kk vr := fun {kk} => cell_of ga1 (by omega) rfl
  have nea : (n + 1 = n1) = False := eq_false (by have := G1.1; omega)
  generalize mayQ ask dist vars body = okq at *
  cases okq with
  | false =>
    have hl : linesE false ask yes rows = ([], 2) := by simp [linesE]
    rw [hl] at K
    simp (maxSteps := 2000000) (disch := first | omega | assumption) only [↓mCode, ↓mOps, mAll, seval, vPtr, ite_ne, wrap_i64, boundN_int, fn7, Tryz.f7, List.map_nil, List.map_cons, Bool.not_true, Bool.not_false, decide_true, decide_false]
    exact K _ _ _ ⟨⟨_, rfl, StrIn.nil⟩, G01⟩
  | true =>
    cases ask with
    | true =>
      cases yes with
      | true =>
        have hl : linesE true true true rows = ([[121, 101, 115]], 0) := by simp [linesE]
        rw [hl] at K
        simp (maxSteps := 2000000) (disch := first | omega | assumption) only [↓mCode, ↓mOps, mAll, seval, vPtr, ite_ne, wrap_i64, boundN_int, fn7, Tryz.f7, List.map_nil, List.map_cons, Bool.not_true, Bool.not_false, decide_true, decide_false, mMap, keyOk_bool, List.nil_append, List.cons_append, reduceCtorEq, f0, y0, y1, nea]
        refine K _ _ _ ⟨⟨_, rfl, ?_⟩, ?_⟩
        · exact StrIn.one (by rw [T.get_put, if_pos rfl]) (Nat.lt_succ_self _)
        refine ⟨by have := G01.1; omega, fun j hj => ?_⟩
        have := G01.1
        simp only [T.get_put]
        repeat rw [if_neg (by omega)]
        exact G01.2 j hj
      | false =>
        have hl : linesE true true false rows = ([[110, 111]], 0) := by simp [linesE]
        rw [hl] at K
        simp (maxSteps := 2000000) (disch := first | omega | assumption) only [↓mCode, ↓mOps, mAll, seval, vPtr, ite_ne, wrap_i64, boundN_int, fn7, Tryz.f7, List.map_nil, List.map_cons, Bool.not_true, Bool.not_false, decide_true, decide_false, mMap, keyOk_bool, List.nil_append, List.cons_append, reduceCtorEq, f0, y0, y1, nea]
        refine K _ _ _ ⟨⟨_, rfl, ?_⟩, ?_⟩
        · exact StrIn.one (by rw [T.get_put, if_pos rfl]) (Nat.lt_succ_self _)
        refine ⟨by have := G01.1; omega, fun j hj => ?_⟩
        have := G01.1
        simp only [T.get_put]
        repeat rw [if_neg (by omega)]
        exact G01.2 j hj
    | false =>
      simp (maxSteps := 2000000) (disch := first | omega | assumption) only [↓mCode, ↓mOps, mAll, seval, vPtr, ite_ne, wrap_i64, boundN_int, fn7, Tryz.f7, List.map_nil, List.map_cons, Bool.not_true, Bool.not_false, decide_true, decide_false, f0, y0, y1, lenR]
      refine W_loopE (fun q regs h2 n2 => ∃ (i : Nat) (u : V), q = rows.length - i ∧ i ≤ rows.length ∧ regs.get 6 = some u ∧ regs.get 26 = some vr ∧ regs.get 27 = some (.int .i64 (rows.length : Int)) ∧ regs.get 28 = some (.int .i64 (i : Int)) ∧ SBuf h2 n2 n1 u ((rows.take i).map rowT) ∧ (∀ j, j < i → mayRow (rows.getD j []) = true) ∧ Gro h1 n1 h2 n2)
        (fun regs h2 n2 => ∃ u : V, regs.get 6 = some u ∧ SBuf h2 n2 n1 u (rows.map rowT) ∧ (∀ j, j < rows.length → mayRow (rows.getD j []) = true) ∧ Gro h1 n1 h2 n2)
        _ ⟨0, .base (.slice none 0 0), rfl, by omega, ?_, ?_, ?_, ?_, SBuf.nil (Nat.le_refl _), fun j hj => absurd hj (by omega), Gro.refl _ _⟩ ?_ ?_
      iterate 4
        · simp only [mBase, Nat.reduceEqDiff, Nat.reduceSub, reduceIte] <;> rfl
      · rintro tt hexit q regs h2 n2 ⟨i, u, rfl, hi, r6, r26, r27, r28, B, hm, G2⟩ IH
        have ga2 : h2.get (n + 1) = some (.cells (ofT [V.bool yes, vr]) 2 2) := by rw [G2.2 (n + 1) (by have := G1.1; omega)]; exact ga1
        have y2 : ∀ {kk : V → Out}, cellAt h2 (n + 1) 1 kk = kk vr := fun {kk} => cell_of ga2 (by omega) rfl
        by_cases c1 : i < rows.length
        · have c1' : ((i : Int) < (rows.length : Int)) = True := eq_true (by omega)
          have ts := take_snocR c1
          have tl : ((rows.take i).map rowT).length = i := by rw [List.length_map, List.length_take]; omega
          have gri := gr i c1
          have mf := mayRows_f c1
          have hmr : mayRow (rows.getD i []) = true → ∀ j, j < i + 1 → mayRow (rows.getD j []) = true := fun z j hj => by
            by_cases e : j = i
            · subst e; exact z
            · exact hm j (by omega)
          obtain ⟨id, off, ex, k, lo, r, hvr, hlo, hid, hc, Rw⟩ := RowIn.at2 (Rr.ext (G01.trans G2)) c1
          have lenR' := @lenR
          rw [hvr] at lenR' y2 r26
          generalize rows.getD i [] = row at *
          simp (maxSteps := 2000000) (disch := first | omega | assumption) only [↓mCode, ↓mOps, mAll, seval, vPtr, ite_ne, wrap_i64, boundN_int, fn7, Tryz.f7, List.map_nil, List.map_cons, Bool.not_true, Bool.not_false, decide_true, decide_false, r6, r26, r27, r28, y2, lenR', c1', ↓hc]
          refine (rowText_ok Rw gri.1 gri.2).call e0_hook e0_subs ?_
          rintro _ h3 n3 ⟨rfl, G3⟩
          cases b : mayRow row with
          | false =>
            have rv : rowV row = .tuple [.str [], .int .i64 2] := by unfold rowV; rw [b]; rfl
            rw [rv]
            simp (maxSteps := 2000000) (disch := first | omega | assumption) only [↓mCode, ↓mOps, mAll, seval, vPtr, ite_ne, wrap_i64, boundN_int, fn7, Tryz.f7, List.map_nil, List.map_cons, Bool.not_true, Bool.not_false, decide_true, decide_false, r6, r26, r27, r28]
            have hl : linesE true false yes rows = ([], 2) := by unfold linesE; rw [mf b]; rfl
            rw [hl] at K
            exact K _ _ _ ⟨⟨_, rfl, StrIn.nil⟩, (G01.trans G2).trans G3⟩
          | true =>
            have rv : rowV row = .tuple [.str (rowT row), .int .i64 0] := by unfold rowV; rw [b]; rfl
            rw [rv]
            obtain ⟨v4, h4, ap, B4, k4, _⟩ := (B.ext G3).app (x := rowT row) (by omega)
            simp (maxSteps := 2000000) (disch := first | omega | assumption) only [↓mCode, ↓mOps, mAll, seval, vPtr, ite_ne, wrap_i64, boundN_int, fn7, Tryz.f7, List.map_nil, List.map_cons, Bool.not_true, Bool.not_false, decide_true, decide_false, r6, r26, r27, r28, src33, ap]
            have G23 := G2.trans G3
            refine IH (rows.length - (i + 1)) _ _ _ (by omega) ⟨i + 1, v4, rfl, by omega, ?_, ?_, ?_, ?_, by rw [ts]; exact B4, hmr b, ⟨by have := G23.1; omega, fun a ha => by rw [k4 a ha, G23.2 a ha]⟩⟩
            iterate 4
              · simp only [mBase, Nat.reduceEqDiff, Nat.reduceSub, reduceIte, r6, r26, hvr, r27, r28] <;> rfl
        · have e : i = rows.length := by omega
          have c1' : ((i : Int) < (rows.length : Int)) = False := eq_false (by omega)
          subst e
          simp (maxSteps := 2000000) (disch := first | omega | assumption) only [↓mCode, ↓mOps, mAll, seval, vPtr, ite_ne, wrap_i64, boundN_int, fn7, Tryz.f7, List.map_nil, List.map_cons, Bool.not_true, Bool.not_false, decide_true, decide_false, r6, r26, r27, r28, y2, lenR, c1']
          exact hexit _ _ _ ⟨u, by simp only [mBase, Nat.reduceEqDiff, Nat.reduceSub, reduceIte, r6], by rwa [List.take_length] at B, hm, G2⟩
      · rintro regs h2 n2 ⟨u, r6, B, hm, G2⟩
        simp (maxSteps := 2000000) (disch := first | omega | assumption) only [↓mCode, ↓mOps, mAll, seval, vPtr, ite_ne, wrap_i64, boundN_int, fn7, Tryz.f7, List.map_nil, List.map_cons, Bool.not_true, Bool.not_false, decide_true, decide_false, r6]
        have hl : linesE true false yes rows = (rows.map rowT, 0) := by unfold linesE; rw [mayRows_t hm]; rfl
        rw [hl] at K
        exact K _ _ _ ⟨⟨_, rfl, B.str⟩, G01.trans G2⟩

theorem lines18_ok {h : T O} {n : Nat} {vv vb vr : V} {ask dist yes : Bool} {vars : List (List Nat)} {body : List LitT} {rows : List (List Tm)} (Rv : StrIn h n vv vars) (Rb : LitIn h n vb body) (Rr : RowsIn h n vr rows)
    (gb : ∀ i, i < body.length → GdL (body.getD i zLit)) (gr : GdRows rows) (hr : rows.length ≤ 100) :
    Fn env0 8 [.agg [.bool ask, .bool dist, vv, vb], .agg [.bool yes, vr]] h n (fun v h' n' => (∃ lv, v = .tuple [lv, .int .i64 (linesE (mayQ ask dist vars body) ask yes rows).2] ∧ StrIn h' n' lv (linesE (mayQ ask dist vars body) ask yes rows).1) ∧ Gro h n h' n') := by
  refine Fn.mk fn8 rfl fz8 (by simp) fun Q cs K => ?_
  have lenR : ∀ {hh : T O} {e : Nat} {k : V → Out}, lenIn hh (.slice e) vr k = k (.int .i64 (rows.length : Int)) := fun {hh e k} => by
    obtain ⟨_, g, S, _⟩ := Rr
    exact S.lenA
  generalize hhB : (h.put n (some (.cells (ofT [V.bool ask, V.bool dist, vv, vb]) 4 4))).put (n + 1) (some (.cells (ofT [V.bool yes, vr]) 2 2)) = hB
  have GB : Gro h n hB (n + 1 + 1) := by rw [← hhB]; exact ((Gro.refl h n).put _).put _
  have gq : hB.get n = some (.cells (ofT [V.bool ask, V.bool dist, vv, vb]) 4 4) := by rw [← hhB, T.get_put, if_neg (by omega), T.get_put, if_pos rfl]
  have ga : hB.get (n + 1) = some (.cells (ofT [V.bool yes, vr]) 2 2) := by rw [← hhB, T.get_put, if_pos rfl]
  have q4 : ∀ {kk : List V → Out}, cellsAt hB n 0 4 kk = kk [V.bool ask, V.bool dist, vv, vb] := fun {kk} => by
    rw [cellsAt_eq, gq, om_some, rCells_cells, need_ble (by omega)]; exact load_4
  simp (maxSteps := 2000000) (disch := first | omega | assumption) only [↓mCode, ↓mOps, mAll, seval, vPtr, ite_ne, wrap_i64, boundN_int, fn8, Tryz.f8, List.map_nil, List.map_cons, Bool.not_true, Bool.not_false, decide_true, decide_false, hhB, q4]
  refine (mayQ37_ok (Rv.ext GB) (Rb.ext GB) gb).call e0_hook e0_subs ?_
  rintro _ h1 n1 ⟨rfl, G1⟩
  have G01 : Gro h n h1 n1 := GB.trans G1
  have gq1 : h1.get n = some (.cells (ofT [V.bool ask, V.bool dist, vv, vb]) 4 4) := by rw [G1.2 n (by omega)]; exact gq
  have ga1 : h1.get (n + 1) = some (.cells (ofT [V.bool yes, vr]) 2 2) := by rw [G1.2 (n + 1) (by omega)]; exact ga
  have f0 : ∀ {kk : V → Out}, cellAt h1 n 0 kk = kk (.bool ask) := fun {kk} => cell_of gq1 (by omega) rfl
  have y0 : ∀ {kk : V → Out}, cellAt h1 (n + 1) 0 kk = kk (.bool yes) := fun {kk} => cell_of ga1 (by omega) rfl
  have y1 : ∀ {kk : V → Out}, cellAt h1 (n + 1) 1 kk = kk vr := fun {kk} => cell_of ga1 (by omega) rfl
  have nea : (n + 1 = n1) = False := eq_false (by have := G1.1; omega)
  generalize mayQ ask dist vars body = okq at *
  cases okq with
  | false =>
    have hl : linesE false ask yes rows = ([], 2) := by simp [linesE]
    rw [hl] at K
    simp (maxSteps := 2000000) (disch := first | omega | assumption) only [↓mCode, ↓mOps, mAll, seval, vPtr, ite_ne, wrap_i64, boundN_int, fn8, Tryz.f8, List.map_nil, List.map_cons, Bool.not_true, Bool.not_false, decide_true, decide_false]
    exact K _ _ _ ⟨⟨_, rfl, StrIn.nil⟩, G01⟩
  | true =>
    cases ask with
    | true =>
      cases yes with
      | true =>
        have hl : linesE true true true rows = ([[121, 101, 115]], 0) := by simp [linesE]
        rw [hl] at K
        simp (maxSteps := 2000000) (disch := first | omega | assumption) only [↓mCode, ↓mOps, mAll, seval, vPtr, ite_ne, wrap_i64, boundN_int, fn8, Tryz.f8, List.map_nil, List.map_cons, Bool.not_true, Bool.not_false, decide_true, decide_false, f0, y0, y1]
        exact K _ _ _ ⟨⟨_, rfl, StrIn.one (m := n1) (by rw [T.get_put, if_pos rfl]) (Nat.lt_succ_self _)⟩, G01.put _⟩
      | false =>
        have hl : linesE true true false rows = ([[110, 111]], 0) := by simp [linesE]
        rw [hl] at K
        simp (maxSteps := 2000000) (disch := first | omega | assumption) only [↓mCode, ↓mOps, mAll, seval, vPtr, ite_ne, wrap_i64, boundN_int, fn8, Tryz.f8, List.map_nil, List.map_cons, Bool.not_true, Bool.not_false, decide_true, decide_false, f0, y0, y1]
        exact K _ _ _ ⟨⟨_, rfl, StrIn.one (m := n1) (by rw [T.get_put, if_pos rfl]) (Nat.lt_succ_self _)⟩, G01.put _⟩
    | false =>
      simp (maxSteps := 2000000) (disch := first | omega | assumption) only [↓mCode, ↓mOps, mAll, seval, vPtr, ite_ne, wrap_i64, boundN_int, fn8, Tryz.f8, List.map_nil, List.map_cons, Bool.not_true, Bool.not_false, decide_true, decide_false, f0, y0, y1, lenR]
      refine W_loopE (fun q regs h2 n2 => ∃ (i : Nat) (u : V), q = rows.length - i ∧ i ≤ rows.length ∧ regs.get 3 = some (.ptr (n + 1) 0) ∧ regs.get 6 = some u ∧ regs.get 7 = some (.int .i64 (i : Int)) ∧ SBuf h2 n2 n1 u ((rows.take i).map rowT) ∧ (∀ j, j < i → mayRow (rows.getD j []) = true) ∧ Gro h1 n1 h2 n2)
        (fun regs h2 n2 => ∃ u : V, regs.get 6 = some u ∧ SBuf h2 n2 n1 u (rows.map rowT) ∧ (∀ j, j < rows.length → mayRow (rows.getD j []) = true) ∧ Gro h1 n1 h2 n2)
        _ ⟨0, .base (.slice none 0 0), rfl, by omega, ?_, ?_, ?_, SBuf.nil (Nat.le_refl _), fun j hj => absurd hj (by omega), Gro.refl _ _⟩ ?_ ?_
      iterate 3
        · simp only [mBase, Nat.reduceEqDiff, Nat.reduceSub, reduceIte] <;> rfl
      · rintro tt hexit q regs h2 n2 ⟨i, u, rfl, hi, r3, r6, r7, B, hm, G2⟩ IH
        have ga2 : h2.get (n + 1) = some (.cells (ofT [V.bool yes, vr]) 2 2) := by rw [G2.2 (n + 1) (by have := G1.1; omega)]; exact ga1
        have y2 : ∀ {kk : V → Out}, cellAt h2 (n + 1) 1 kk = kk vr := fun {kk} => cell_of ga2 (by omega) rfl
        by_cases c1 : i < rows.length
        · have c1' : ((i : Int) < (rows.length : Int)) = True := eq_true (by omega)
          have ts := take_snocR c1
          have tl : ((rows.take i).map rowT).length = i := by rw [List.length_map, List.length_take]; omega
          have gri := gr i c1
          have mf := mayRows_f c1
          have hmr : mayRow (rows.getD i []) = true → ∀ j, j < i + 1 → mayRow (rows.getD j []) = true := fun z j hj => by
            by_cases e : j = i
            · subst e; exact z
            · exact hm j (by omega)
          obtain ⟨id, off, ex, k, lo, r, hvr, hlo, hid, hc, Rw⟩ := RowIn.at2 (Rr.ext (G01.trans G2)) c1
          have lenR' := @lenR
          rw [hvr] at lenR' y2
          generalize rows.getD i [] = row at *
          simp (maxSteps := 2000000) (disch := first | omega | assumption) only [↓mCode, ↓mOps, mAll, seval, vPtr, ite_ne, wrap_i64, boundN_int, fn8, Tryz.f8, List.map_nil, List.map_cons, Bool.not_true, Bool.not_false, decide_true, decide_false, r3, r6, r7, y2, lenR', c1', ↓hc]
          refine (rowText20_ok Rw gri.1 gri.2).call e0_hook e0_subs ?_
          rintro _ h3 n3 ⟨rfl, G3⟩
          cases b : mayRow row with
          | false =>
            have rv : rowV row = .tuple [.str [], .int .i64 2] := by unfold rowV; rw [b]; rfl
            rw [rv]
            simp (maxSteps := 2000000) (disch := first | omega | assumption) only [↓mCode, ↓mOps, mAll, seval, vPtr, ite_ne, wrap_i64, boundN_int, fn8, Tryz.f8, List.map_nil, List.map_cons, Bool.not_true, Bool.not_false, decide_true, decide_false, r3, r6, r7]
            have hl : linesE true false yes rows = ([], 2) := by unfold linesE; rw [mf b]; rfl
            rw [hl] at K
            exact K _ _ _ ⟨⟨_, rfl, StrIn.nil⟩, (G01.trans G2).trans G3⟩
          | true =>
            have rv : rowV row = .tuple [.str (rowT row), .int .i64 0] := by unfold rowV; rw [b]; rfl
            rw [rv]
            obtain ⟨v4, h4, ap, B4, k4, _⟩ := (B.ext G3).app (x := rowT row) (by omega)
            simp (maxSteps := 2000000) (disch := first | omega | assumption) only [↓mCode, ↓mOps, mAll, seval, vPtr, ite_ne, wrap_i64, boundN_int, fn8, Tryz.f8, List.map_nil, List.map_cons, Bool.not_true, Bool.not_false, decide_true, decide_false, r3, r6, r7, src33, ap]
            have G23 := G2.trans G3
            refine IH (rows.length - (i + 1)) _ _ _ (by omega) ⟨i + 1, v4, rfl, by omega, ?_, ?_, ?_, by rw [ts]; exact B4, hmr b, ⟨by have := G23.1; omega, fun a ha => by rw [k4 a ha, G23.2 a ha]⟩⟩
            iterate 3
              · simp only [mBase, Nat.reduceEqDiff, Nat.reduceSub, reduceIte, r3, r6, r7] <;> rfl
        · have e : i = rows.length := by omega
          have c1' : ((i : Int) < (rows.length : Int)) = False := eq_false (by omega)
          subst e
          simp (maxSteps := 2000000) (disch := first | omega | assumption) only [↓mCode, ↓mOps, mAll, seval, vPtr, ite_ne, wrap_i64, boundN_int, fn8, Tryz.f8, List.map_nil, List.map_cons, Bool.not_true, Bool.not_false, decide_true, decide_false, r3, r6, r7, y2, lenR, c1']
          exact hexit _ _ _ ⟨u, by simp only [mBase, Nat.reduceEqDiff, Nat.reduceSub, reduceIte, r6], by rwa [List.take_length] at B, hm, G2⟩
      · rintro regs h2 n2 ⟨u, r6, B, hm, G2⟩
        simp (maxSteps := 2000000) (disch := first | omega | assumption) only [↓mCode, ↓mOps, mAll, seval, vPtr, ite_ne, wrap_i64, boundN_int, fn8, Tryz.f8, List.map_nil, List.map_cons, Bool.not_true, Bool.not_false, decide_true, decide_false, r6]
        have hl : linesE true false yes rows = (rows.map rowT, 0) := by unfold linesE; rw [mayRows_t hm]; rfl
        rw [hl] at K
        exact K _ _ _ ⟨⟨_, rfl, B.str⟩, G01.trans G2⟩
end Go.Mir
