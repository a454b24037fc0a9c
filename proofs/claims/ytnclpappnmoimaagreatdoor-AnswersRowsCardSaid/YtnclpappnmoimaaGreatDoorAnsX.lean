/- Walks: answers.Distinct; the law. -/
import Derived.Test.YtnclpappnmoimaaGreatDoorAnsW
set_option linter.unusedSimpArgs false
set_option linter.unusedVariables false
namespace Go.Mir
open Go Go.Proofs Go.Srt
set_option maxRecDepth 4000
set_option maxHeartbeats 8000000

theorem asc_small {la out : List (List Tm)} (hp : out.Perm la) (hs : Small la) : Small out := small_iff.2 fun y hy => small_iff.1 hs y (hp.mem_iff.1 hy)

/-- rows, each once, by the program's Distinct -/
theorem dist12_ok {h : T O} {n : Nat} {va : V} {la : List (List Tm)} (ha : RowsIn h n va la) (hn : la.length ≤ 900) (hs : Small la) :
    Fn env1 11 [va] h n (fun v h' n' => RowsIn h' n' v (distR cmpR la) ∧ Gro h n h' n') := by
  refine Fn.mk fn11 rfl fz11 (by simp) fun Q cs K => ?_
  simp (maxSteps := 2000000) (disch := first | omega | assumption) only [↓mCode, ↓mOps, mVal, mBase, vPtr, Int.reduceLT, Int.reduceAdd, Int.reduceSub, Int.reduceLE, Int.reduceToNat, Int.reduceNeg, ite_true, ite_false, Nat.reduceAdd, Nat.reduceSub, Nat.reduceMul, Nat.reduceEqDiff, Nat.reduceLeDiff, reduceIte, ite_ne, wrap_i64, boundN_int, e1_tys, e1_fns, fn11, Tryz.f11, resultsK_eq, ty3, ty22, ty31]
  refine (sort10_ok ha hn hs).call rfl e1_subs ?_
  rintro v h1 n1 ⟨out, O, hp, hasc, G⟩
  simp (maxSteps := 2000000) (disch := first | omega | assumption) only [↓mCode, ↓mOps, mVal, mBase, vPtr, Int.reduceLT, Int.reduceAdd, Int.reduceSub, Int.reduceLE, Int.reduceToNat, Int.reduceNeg, ite_true, ite_false, Nat.reduceAdd, Nat.reduceSub, Nat.reduceMul, Nat.reduceEqDiff, Nat.reduceLeDiff, reduceIte, ite_ne, wrap_i64, boundN_int, e1_tys, e1_fns, fn11, Tryz.f11, resultsK_eq, ty3, ty22, ty31]
  refine (compact_ok O (by rw [hp.length_eq]; omega) (asc_small hp hs)).call rfl e1_subs ?_
  rintro v2 h2 n2 ⟨R, hn2, hk⟩
  simp (maxSteps := 2000000) (disch := first | omega | assumption) only [↓mCode, ↓mOps, mVal, mBase, vPtr, Int.reduceLT, Int.reduceAdd, Int.reduceSub, Int.reduceLE, Int.reduceToNat, Int.reduceNeg, ite_true, ite_false, Nat.reduceAdd, Nat.reduceSub, Nat.reduceMul, Nat.reduceEqDiff, Nat.reduceLeDiff, reduceIte, ite_ne, wrap_i64, boundN_int, e1_tys, e1_fns, fn11, Tryz.f11, resultsK_eq, ty3, ty22, ty31]
  exact K _ _ _ ⟨by rw [← distR_eq (lexL_LC cmpT_LC) hp hasc]; exact R, by have := G.1; omega, fun j hj => (hk j hj).trans (G.2 j hj)⟩

theorem RowsIn.one {h : T O} {n : Nat} {v : V} {ls : List (List Tm)} (R : RowsIn h n v ls) : oneV v = true := by
  obtain ⟨_, g, S, _⟩ := R
  generalize ls.length = L at S
  cases S <;> rfl

theorem nbeq {a : Nat} : Nat.beq a a = true := Nat.beq_refl a
theorem RowsIn.sameB {h : T O} {n : Nat} {v : V} {ls : List (List Tm)} (R : RowsIn h n v ls) : sameB v v = true := by
  obtain ⟨_, g, S, _⟩ := R
  generalize ls.length = L at S
  cases S with
  | nil a =>
    cases a with
    | none => rfl
    | some a => exact @decide_eq_true _ (Classical.propDecidable _) ⟨rfl, rfl, rfl⟩
  | tail => simp only [Mir.sameB, nbeq, Bool.and_self]
  | slice id off len ex k lo => cases ex <;> simp only [Mir.sameB, nbeq, Bool.and_self, Bool.not_false]
theorem RowsIn.sameV {h : T O} {n : Nat} {v : V} {ls : List (List Tm)} (R : RowsIn h n v ls) : sameV v v = true := by
  have h := R.sameB
  obtain ⟨_, g, S, _⟩ := R
  generalize ls.length = L at S
  cases S <;> exact h
theorem sl_sameB {h : T O} {e : Nat} {g : Nat → V} {v : V} {L : Nat} (S : Sl h e g v L) : sameB v v = true := by
  cases S with
  | nil a =>
    cases a with
    | none => rfl
    | some a => exact @decide_eq_true _ (Classical.propDecidable _) ⟨rfl, rfl, rfl⟩
  | tail => simp only [Mir.sameB, nbeq, Bool.and_self]
  | slice id off len ex k lo => cases ex <;> simp only [Mir.sameB, nbeq, Bool.and_self, Bool.not_false]
theorem sl_same {h : T O} {e : Nat} {g : Nat → V} {v : V} {L : Nat} (S : Sl h e g v L) : sameV v v = true := by
  have h := sl_sameB S
  cases S <;> exact h
theorem fold_len (once : Bool) : ∀ (l acc : List (List Tm)), (l.foldl (fun acc x => putR once x acc) acc).length ≤ acc.length + l.length
  | [], acc => Nat.le_refl _
  | x :: l, acc => by
    have h1 := fold_len once l (putR once x acc)
    have h2 := putR_len once x acc
    rw [List.foldl_cons, List.length_cons]; omega
theorem fold_mem (once : Bool) : ∀ (l acc : List (List Tm)) (y : List Tm), y ∈ l.foldl (fun acc x => putR once x acc) acc → y ∈ acc ∨ y ∈ l
  | [], acc, y, h => .inl h
  | x :: l, acc, y, h => by
    rcases fold_mem once l (putR once x acc) y h with h1 | h1
    · rcases putR_mem once x acc h1 with rfl | h2
      · exact .inr (List.mem_cons_self)
      · exact .inl h2
    · exact .inr (List.mem_cons_of_mem _ h1)
theorem fold_small {once : Bool} {la : List (List Tm)} (hs : Small la) : Small (la.foldl (fun acc x => putR once x acc) []) :=
  small_iff.2 fun y hy => (fold_mem once la [] y hy).elim (fun h => (by cases h)) fun h => small_iff.1 hs y h
theorem sameV_ans {v : V} {y : Bool} (h : sameB v v = true) : sameV (.agg [.bool y, v]) (.agg [.bool y, v]) = true := by
  have e1 : sameB (.bool y) (.bool y) = true := by cases y <;> rfl
  show (Bool.rec false (Bool.rec false (sameL [] []) (sameB v v)) (sameB (.bool y) (.bool y)) : Bool) = true
  rw [e1, h]; rfl
theorem two_at {h : T O} {id : Nat} {t : T V} {a b : V} (h1 : h.get id = some (.cells t 2 2)) (ha : t.get 0 = some a) (hb : t.get 1 = some b) {k : List V → Out} : cellsAt h id 0 2 k = k [a, b] := by
  rw [cellsAt_eq, h1]
  show need (Nat.ble 2 2) (loadN t 0 2 k) = _
  rw [loadN_2]
  show om (t.get 1) (fun b => om (t.get 0) fun a => k [a, b]) = _
  rw [ha, hb]; rfl

theorem Few.small {la : List (List Tm)} (h : Few la) : Small la := fun i hi => Nat.le_trans (h.2 i hi) (by omega)

/-- THE LAW of rows -/
theorem law_ok {h : T O} {n : Nat} {va vb : V} {la lb : List (List Tm)} {y : Bool} (ha : RowsIn h n va la) (hb : RowsIn h n vb lb) :
    Fn env1 3 [va, vb, .bool y] h n (fun v _ _ => v = .bool true) := by
  refine Fn.mk fn3 rfl fz3 (by simp) fun Q cs K => ?_
  simp (maxSteps := 2000000) (disch := first | omega | assumption) only [↓mCode, ↓mOps, mVal, mBase, vPtr, Int.reduceLT, Int.reduceAdd, Int.reduceSub, Int.reduceLE, Int.reduceToNat, Int.reduceNeg, ite_true, ite_false, Nat.reduceAdd, Nat.reduceSub, Nat.reduceMul, Nat.reduceEqDiff, Nat.reduceLeDiff, reduceIte, ite_ne, wrap_i64, boundN_int, e1_tys, e1_fns, fn3, Tryz.f3, resultsK_eq, ty3, ty4, ty22, ty31]
  refine (much_any ha.rows).call rfl e1_subs ?_
  rintro _ h n ⟨⟨ba, rfl, fa⟩, rfl, rfl⟩
  cases ba with
  | true =>
    simp (maxSteps := 2000000) (disch := first | omega | assumption) only [↓mCode, ↓mOps, mVal, mBase, vPtr, Int.reduceLT, Int.reduceAdd, Int.reduceSub, Int.reduceLE, Int.reduceToNat, Int.reduceNeg, ite_true, ite_false, Nat.reduceAdd, Nat.reduceSub, Nat.reduceMul, Nat.reduceEqDiff, Nat.reduceLeDiff, reduceIte, ite_ne, wrap_i64, boundN_int, e1_tys, e1_fns, fn3, Tryz.f3, resultsK_eq, ty3, ty4, ty22, ty31, ent5]
    exact K _ _ _ rfl
  | false =>
  simp (maxSteps := 2000000) (disch := first | omega | assumption) only [↓mCode, ↓mOps, mVal, mBase, vPtr, Int.reduceLT, Int.reduceAdd, Int.reduceSub, Int.reduceLE, Int.reduceToNat, Int.reduceNeg, ite_true, ite_false, Nat.reduceAdd, Nat.reduceSub, Nat.reduceMul, Nat.reduceEqDiff, Nat.reduceLeDiff, reduceIte, ite_ne, wrap_i64, boundN_int, e1_tys, e1_fns, fn3, Tryz.f3, resultsK_eq, ty3, ty4, ty22, ty31, ent5]
  refine (much_any hb.rows).call rfl e1_subs ?_
  rintro _ h n ⟨⟨bb, rfl, fb⟩, rfl, rfl⟩
  cases bb with
  | true =>
    simp (maxSteps := 2000000) (disch := first | omega | assumption) only [↓mCode, ↓mOps, mVal, mBase, vPtr, Int.reduceLT, Int.reduceAdd, Int.reduceSub, Int.reduceLE, Int.reduceToNat, Int.reduceNeg, ite_true, ite_false, Nat.reduceAdd, Nat.reduceSub, Nat.reduceMul, Nat.reduceEqDiff, Nat.reduceLeDiff, reduceIte, ite_ne, wrap_i64, boundN_int, e1_tys, e1_fns, fn3, Tryz.f3, resultsK_eq, ty3, ty4, ty22, ty31, ent5]
    exact K _ _ _ rfl
  | false =>
  have fa := fa rfl
  have fb := fb rfl
  have ca : cellsOf va = [va] := cellsOf_one ha.one
  have cb : cellsOf vb = [vb] := cellsOf_one hb.one
  have oa : oneV va = true := ha.one
  have ob : oneV vb = true := hb.one
  simp (maxSteps := 2000000) (disch := first | omega | assumption) only [↓mCode, ↓mOps, mVal, mBase, vPtr, Int.reduceLT, Int.reduceAdd, Int.reduceSub, Int.reduceLE, Int.reduceToNat, Int.reduceNeg, ite_true, ite_false, Nat.reduceAdd, Nat.reduceSub, Nat.reduceMul, Nat.reduceEqDiff, Nat.reduceLeDiff, reduceIte, ite_ne, wrap_i64, boundN_int, e1_tys, e1_fns, fn3, Tryz.f3, resultsK_eq, ty3, ty4, ty22, ty26, ty31, ent5, ca, cb, oa, ob]
  refine W_draw sr3_4 ss3_4 ?_ ?_
  · exact sk3_4
  simp (maxSteps := 2000000) (disch := first | omega | assumption) only [↓mCode, ↓mOps, mVal, mBase, vPtr, Int.reduceLT, Int.reduceAdd, Int.reduceSub, Int.reduceLE, Int.reduceToNat, Int.reduceNeg, ite_true, ite_false, Nat.reduceAdd, Nat.reduceSub, Nat.reduceMul, Nat.reduceEqDiff, Nat.reduceLeDiff, reduceIte, ite_ne, wrap_i64, boundN_int, e1_tys, e1_fns, fn3, Tryz.f3, resultsK_eq, ty3, ty4, ty22, ty26, ty31, ent5, ca, cb, oa, ob]
  have G0 : Gro h n ((((h.put n (some (O.cells (ofT [V.bool false, V.base (Value.slice none 0 0)]) 2 2))).put (n + 1) (some (O.cells (ofT [V.bool false, V.base (Value.slice none 0 0)]) 2 2))).put n
      (some (O.cells (((ofT [V.bool false, V.base (Value.slice none 0 0)]).put 0 (some (V.bool y))).put 1 (some va)) 2 2))).put (n + 1)
      (some (O.cells (((ofT [V.bool false, V.base (Value.slice none 0 0)]).put 0 (some (V.bool true))).put 1 (some vb)) 2 2))) (n + 1 + 1) :=
    ((((Gro.refl h n).put _).put _).set (by omega) _).set (by omega) _
  have q0 : ((((h.put n (some (O.cells (ofT [V.bool false, V.base (Value.slice none 0 0)]) 2 2))).put (n + 1) (some (O.cells (ofT [V.bool false, V.base (Value.slice none 0 0)]) 2 2))).put n
      (some (O.cells (((ofT [V.bool false, V.base (Value.slice none 0 0)]).put 0 (some (V.bool y))).put 1 (some va)) 2 2))).put (n + 1)
      (some (O.cells (((ofT [V.bool false, V.base (Value.slice none 0 0)]).put 0 (some (V.bool true))).put 1 (some vb)) 2 2))).get n = some (O.cells (((ofT [V.bool false, V.base (Value.slice none 0 0)]).put 0 (some (V.bool y))).put 1 (some va)) 2 2) := by
    rw [T.get_put, if_neg (by omega), T.get_put, if_pos rfl]
  have q1 : ((((h.put n (some (O.cells (ofT [V.bool false, V.base (Value.slice none 0 0)]) 2 2))).put (n + 1) (some (O.cells (ofT [V.bool false, V.base (Value.slice none 0 0)]) 2 2))).put n
      (some (O.cells (((ofT [V.bool false, V.base (Value.slice none 0 0)]).put 0 (some (V.bool y))).put 1 (some va)) 2 2))).put (n + 1)
      (some (O.cells (((ofT [V.bool false, V.base (Value.slice none 0 0)]).put 0 (some (V.bool true))).put 1 (some vb)) 2 2))).get (n + 1) = some (O.cells (((ofT [V.bool false, V.base (Value.slice none 0 0)]).put 0 (some (V.bool true))).put 1 (some vb)) 2 2) := by
    rw [T.get_put, if_pos rfl]
  generalize ((((h.put n (some (O.cells (ofT [V.bool false, V.base (Value.slice none 0 0)]) 2 2))).put (n + 1) (some (O.cells (ofT [V.bool false, V.base (Value.slice none 0 0)]) 2 2))).put n
      (some (O.cells (((ofT [V.bool false, V.base (Value.slice none 0 0)]).put 0 (some (V.bool y))).put 1 (some va)) 2 2))).put (n + 1)
      (some (O.cells (((ofT [V.bool false, V.base (Value.slice none 0 0)]).put 0 (some (V.bool true))).put 1 (some vb)) 2 2))) = h0 at *
  have la1 : la.length ≤ 1000000 := Nat.le_trans fa.1 (by omega)
  refine (same_ok (ha.ext G0) (hb.ext G0) la1 fa.small fb.small).call rfl e1_subs ?_
  rintro _ h1 n1 ⟨rfl, G1⟩
  have p0 := (G1.2 n (by omega)).trans q0
  have p1 := (G1.2 (n + 1) (by omega)).trans q1
  have L0 : ∀ {k : List V → Out}, cellsAt h1 n 0 2 k = k [.bool y, va] := two_at p0 (by rw [T.get_put, if_neg (by omega), T.get_put, if_pos rfl]) (by rw [T.get_put, if_pos rfl])
  have L1 : ∀ {k : List V → Out}, cellsAt h1 (n + 1) 0 2 k = k [.bool true, vb] := two_at p1 (by rw [T.get_put, if_neg (by omega), T.get_put, if_pos rfl]) (by rw [T.get_put, if_pos rfl])
  have S2 := ha.sameV
  have S0 := sameV_ans (y := y) ha.sameB
  have S1 := sameV_ans (y := true) hb.sameB
  simp (maxSteps := 2000000) (disch := first | omega | assumption) only [↓mCode, ↓mOps, mVal, mBase, vPtr, Int.reduceLT, Int.reduceAdd, Int.reduceSub, Int.reduceLE, Int.reduceToNat, Int.reduceNeg, ite_true, ite_false, Nat.reduceAdd, Nat.reduceSub, Nat.reduceMul, Nat.reduceEqDiff, Nat.reduceLeDiff, reduceIte, ite_ne, wrap_i64, boundN_int, e1_tys, e1_fns, fn3, Tryz.f3, resultsK_eq, ty3, ty4, ty22, ty26, ty31, ent5, ca, cb, oa, ob, L0, L1, S0, S1]
  refine (same20_ok ((ha.ext G0).ext G1) ((hb.ext G0).ext G1) la1 fa.small fb.small).call rfl e1_subs ?_
  rintro _ h2 n2 ⟨rfl, G2⟩
  generalize decide (y = true ∧ la = lb) = z
  simp (maxSteps := 2000000) (disch := first | omega | assumption) only [↓mCode, ↓mOps, mVal, mBase, vPtr, Int.reduceLT, Int.reduceAdd, Int.reduceSub, Int.reduceLE, Int.reduceToNat, Int.reduceNeg, ite_true, ite_false, Nat.reduceAdd, Nat.reduceSub, Nat.reduceMul, Nat.reduceEqDiff, Nat.reduceLeDiff, reduceIte, ite_ne, wrap_i64, boundN_int, e1_tys, e1_fns, fn3, Tryz.f3, resultsK_eq, ty3, ty4, ty22, ty26, ty31, ent5, neB4, ne_eq, not_true_eq_false]
  refine (sort10_ok (((ha.ext G0).ext G1).ext G2) (Nat.le_trans fa.1 (by omega)) fa.small).call rfl e1_subs ?_
  rintro vs h3 n3 ⟨out, O3, hp, hasc, G3⟩
  have eo : out = sortR cmpR la := sortR_eq (lexL_LC cmpT_LC) hp hasc
  simp (maxSteps := 2000000) (disch := first | omega | assumption) only [↓mCode, ↓mOps, mVal, mBase, vPtr, Int.reduceLT, Int.reduceAdd, Int.reduceSub, Int.reduceLE, Int.reduceToNat, Int.reduceNeg, ite_true, ite_false, Nat.reduceAdd, Nat.reduceSub, Nat.reduceMul, Nat.reduceEqDiff, Nat.reduceLeDiff, reduceIte, ite_ne, wrap_i64, boundN_int, e1_tys, e1_fns, fn3, Tryz.f3, resultsK_eq, ty3, ty4, ty22, ty26, ty31, ent5, S2]
  refine (sort20_ok ((((ha.ext G0).ext G1).ext G2).ext G3) (Nat.le_trans fa.1 (by omega)) fa.small).call rfl e1_subs ?_
  rintro vt h4 n4 ⟨O4, G4⟩
  simp (maxSteps := 2000000) (disch := first | omega | assumption) only [↓mCode, ↓mOps, mVal, mBase, vPtr, Int.reduceLT, Int.reduceAdd, Int.reduceSub, Int.reduceLE, Int.reduceToNat, Int.reduceNeg, ite_true, ite_false, Nat.reduceAdd, Nat.reduceSub, Nat.reduceMul, Nat.reduceEqDiff, Nat.reduceLeDiff, reduceIte, ite_ne, wrap_i64, boundN_int, e1_tys, e1_fns, fn3, Tryz.f3, resultsK_eq, ty3, ty4, ty22, ty26, ty31, ent5, S2]
  refine (sameRows_ok (O3.rowsIn.ext G4).rows O4.rows (by rw [hp.length_eq]; exact la1) (asc_small hp fa.small) (fold_small fa.small)).call rfl e1_subs ?_
  rintro _ h4 n4 ⟨rfl, rfl, rfl⟩
  have e5 : decide (out = la.foldl (fun acc x => putR false x acc) []) = true := decide_eq_true eo
  simp (maxSteps := 2000000) (disch := first | omega | assumption) only [↓mCode, ↓mOps, mVal, mBase, vPtr, Int.reduceLT, Int.reduceAdd, Int.reduceSub, Int.reduceLE, Int.reduceToNat, Int.reduceNeg, ite_true, ite_false, Nat.reduceAdd, Nat.reduceSub, Nat.reduceMul, Nat.reduceEqDiff, Nat.reduceLeDiff, reduceIte, ite_ne, wrap_i64, boundN_int, e1_tys, e1_fns, fn3, Tryz.f3, resultsK_eq, ty3, ty4, ty22, ty26, ty31, ent5, S2, e5]
  refine (dist12_ok (((((ha.ext G0).ext G1).ext G2).ext G3).ext G4) (Nat.le_trans fa.1 (by omega)) fa.small).call rfl e1_subs ?_
  rintro vu h5 n5 ⟨R5, G5⟩
  simp (maxSteps := 2000000) (disch := first | omega | assumption) only [↓mCode, ↓mOps, mVal, mBase, vPtr, Int.reduceLT, Int.reduceAdd, Int.reduceSub, Int.reduceLE, Int.reduceToNat, Int.reduceNeg, ite_true, ite_false, Nat.reduceAdd, Nat.reduceSub, Nat.reduceMul, Nat.reduceEqDiff, Nat.reduceLeDiff, reduceIte, ite_ne, wrap_i64, boundN_int, e1_tys, e1_fns, fn3, Tryz.f3, resultsK_eq, ty3, ty4, ty22, ty26, ty31, ent5, S2]
  refine (dist20_ok ((((((ha.ext G0).ext G1).ext G2).ext G3).ext G4).ext G5) (Nat.le_trans fa.1 (by omega)) fa.small).call rfl e1_subs ?_
  rintro vw h6 n6 ⟨O6, G6⟩
  simp (maxSteps := 2000000) (disch := first | omega | assumption) only [↓mCode, ↓mOps, mVal, mBase, vPtr, Int.reduceLT, Int.reduceAdd, Int.reduceSub, Int.reduceLE, Int.reduceToNat, Int.reduceNeg, ite_true, ite_false, Nat.reduceAdd, Nat.reduceSub, Nat.reduceMul, Nat.reduceEqDiff, Nat.reduceLeDiff, reduceIte, ite_ne, wrap_i64, boundN_int, e1_tys, e1_fns, fn3, Tryz.f3, resultsK_eq, ty3, ty4, ty22, ty26, ty31, ent5, S2]
  refine (sameRows_ok (R5.ext G6).rows O6.rows (Nat.le_trans (fold_len true la []) (by simp only [List.length_nil]; omega)) (fold_small (once := true) fa.small) (fold_small fa.small)).call rfl e1_subs ?_
  rintro _ h6 n6 ⟨rfl, rfl, rfl⟩
  have e6 : decide (distR cmpR la = la.foldl (fun acc x => putR true x acc) []) = true := decide_eq_true rfl
  simp (maxSteps := 2000000) (disch := first | omega | assumption) only [↓mCode, ↓mOps, mVal, mBase, vPtr, Int.reduceLT, Int.reduceAdd, Int.reduceSub, Int.reduceLE, Int.reduceToNat, Int.reduceNeg, ite_true, ite_false, Nat.reduceAdd, Nat.reduceSub, Nat.reduceMul, Nat.reduceEqDiff, Nat.reduceLeDiff, reduceIte, ite_ne, wrap_i64, boundN_int, e1_tys, e1_fns, fn3, Tryz.f3, resultsK_eq, ty3, ty4, ty22, ty26, ty31, ent5, S2, e6]
  have A6 := (((((ha.ext G0).ext G1).ext G2).ext G3).ext G4).ext G5 |>.ext G6
  have B6 := (((((hb.ext G0).ext G1).ext G2).ext G3).ext G4).ext G5 |>.ext G6
  clear q0 q1 p0 p1 L0 L1
  refine W_loop (fun q regs h' n' => ∃ i : Nat, q = la.length - i ∧ i ≤ la.length ∧ regs.get 0 = some va ∧ regs.get 1 = some vb ∧ regs.get 9 = some (.int .i64 (i : Int)) ∧ RowsIn h' n' va la ∧ RowsIn h' n' vb lb)
    _ ⟨0, rfl, Nat.zero_le _, ?_, ?_, ?_, A6, B6⟩ ?_
  · simp (maxSteps := 2000000) (disch := first | omega | assumption) only [↓mCode, ↓mOps, mVal, mBase, vPtr, Int.reduceLT, Int.reduceAdd, Int.reduceSub, Int.reduceLE, Int.reduceToNat, Int.reduceNeg, ite_true, ite_false, Nat.reduceAdd, Nat.reduceSub, Nat.reduceMul, Nat.reduceEqDiff, Nat.reduceLeDiff, reduceIte, ite_ne, wrap_i64, boundN_int, e1_tys]
  · simp (maxSteps := 2000000) (disch := first | omega | assumption) only [↓mCode, ↓mOps, mVal, mBase, vPtr, Int.reduceLT, Int.reduceAdd, Int.reduceSub, Int.reduceLE, Int.reduceToNat, Int.reduceNeg, ite_true, ite_false, Nat.reduceAdd, Nat.reduceSub, Nat.reduceMul, Nat.reduceEqDiff, Nat.reduceLeDiff, reduceIte, ite_ne, wrap_i64, boundN_int, e1_tys]
  · simp (maxSteps := 2000000) (disch := first | omega | assumption) only [↓mCode, ↓mOps, mVal, mBase, vPtr, Int.reduceLT, Int.reduceAdd, Int.reduceSub, Int.reduceLE, Int.reduceToNat, Int.reduceNeg, ite_true, ite_false, Nat.reduceAdd, Nat.reduceSub, Nat.reduceMul, Nat.reduceEqDiff, Nat.reduceLeDiff, reduceIte, ite_ne, wrap_i64, boundN_int, e1_tys] <;> rfl
  rintro q regs h n ⟨i, rfl, hi, r0, r1, r9, A, B⟩ IH
  have a_len : ∀ {e : Nat} {k : V → Out}, lenIn h (.slice e) va k = k (.int .i64 (la.length : Int)) := A.rows.len
  have b_len : ∀ {e : Nat} {k : V → Out}, lenIn h (.slice e) vb k = k (.int .i64 (lb.length : Int)) := B.rows.len
  have fb1 := fb.1
  by_cases c1 : i < la.length
  · have c1' : ((i : Int) < (la.length : Int)) = True := eq_true (by omega)
    by_cases c2 : i < lb.length
    · have c2' : ((i : Int) < (lb.length : Int)) = True := eq_true (by omega)
      obtain ⟨ida, ofa, exa, ka, loa, ra, hva, hloa, hida, hca, hra⟩ := A.get c1
      obtain ⟨idb, ofb, exb, kb, lob, rb, hvb, hlob, hidb, hcb, hrb⟩ := B.get c2
      have hcA := hca h rfl
      have hcB := hcb h rfl
      simp (maxSteps := 2000000) (disch := first | omega | assumption) only [↓mCode, ↓mOps, mVal, mBase, vPtr, Int.reduceLT, Int.reduceAdd, Int.reduceSub, Int.reduceLE, Int.reduceToNat, Int.reduceNeg, ite_true, ite_false, Nat.reduceAdd, Nat.reduceSub, Nat.reduceMul, Nat.reduceEqDiff, Nat.reduceLeDiff, reduceIte, ite_ne, wrap_i64, boundN_int, e1_tys, e1_fns, fn3, Tryz.f3, resultsK_eq, ty3, ty4, ty22, ty31, r0, r1, r9, a_len, b_len, c1', c2']
      refine W_draw sr3_9 ss3_9 ?_ ?_
      · exact sk3_9
      simp (maxSteps := 2000000) (disch := first | omega | assumption) only [↓mCode, ↓mOps, mVal, mBase, vPtr, Int.reduceLT, Int.reduceAdd, Int.reduceSub, Int.reduceLE, Int.reduceToNat, Int.reduceNeg, ite_true, ite_false, Nat.reduceAdd, Nat.reduceSub, Nat.reduceMul, Nat.reduceEqDiff, Nat.reduceLeDiff, reduceIte, ite_ne, wrap_i64, boundN_int, e1_tys, e1_fns, fn3, Tryz.f3, resultsK_eq, ty3, ty4, ty22, ty31, r0, r1, r9, a_len, b_len, c1', c2', hva, hvb, hcA, hcB, Nat.mul_one]
      refine (compare_ok hra hrb (fa.small i c1) (fb.small i c2)).call rfl e1_subs ?_
      rintro _ h8 n8 ⟨rfl, G8⟩
      have sa : sameV ra ra = true := sl_same hra.1
      have sb : sameV rb rb = true := sl_same hrb.1
      have hcA8 := hca h8 (G8.2 ida hida)
      have hcB8 := hcb h8 (G8.2 idb hidb)
      simp (maxSteps := 2000000) (disch := first | omega | assumption) only [↓mCode, ↓mOps, mVal, mBase, vPtr, Int.reduceLT, Int.reduceAdd, Int.reduceSub, Int.reduceLE, Int.reduceToNat, Int.reduceNeg, ite_true, ite_false, Nat.reduceAdd, Nat.reduceSub, Nat.reduceMul, Nat.reduceEqDiff, Nat.reduceLeDiff, reduceIte, ite_ne, wrap_i64, boundN_int, e1_tys, e1_fns, fn3, Tryz.f3, resultsK_eq, ty3, ty4, ty22, ty31, r0, r1, r9, a_len, b_len, c1', c2', hva, hvb, hcA8, hcB8, sa, sb, Nat.mul_one]
      refine (cmpRows_ok (hra.ext G8).1 (hrb.ext G8).1 (fa.small i c1) (fb.small i c2)).call rfl e1_subs ?_
      rintro _ h8 n8 ⟨rfl, rfl, rfl⟩
      simp (maxSteps := 2000000) (disch := first | omega | assumption) only [↓mCode, ↓mOps, mVal, mBase, vPtr, Int.reduceLT, Int.reduceAdd, Int.reduceSub, Int.reduceLE, Int.reduceToNat, Int.reduceNeg, ite_true, ite_false, Nat.reduceAdd, Nat.reduceSub, Nat.reduceMul, Nat.reduceEqDiff, Nat.reduceLeDiff, reduceIte, ite_ne, wrap_i64, boundN_int, e1_tys, e1_fns, fn3, Tryz.f3, resultsK_eq, ty3, ty4, ty22, ty31, r0, r1, r9, ne_eq, not_true_eq_false]
      exact IH (la.length - (i + 1)) _ _ _ (by omega) ⟨i + 1, rfl, by omega, by simp (maxSteps := 2000000) (disch := first | omega | assumption) only [↓mCode, ↓mOps, mVal, mBase, vPtr, Int.reduceLT, Int.reduceAdd, Int.reduceSub, Int.reduceLE, Int.reduceToNat, Int.reduceNeg, ite_true, ite_false, Nat.reduceAdd, Nat.reduceSub, Nat.reduceMul, Nat.reduceEqDiff, Nat.reduceLeDiff, reduceIte, ite_ne, wrap_i64, boundN_int, r0, hva], by simp (maxSteps := 2000000) (disch := first | omega | assumption) only [↓mCode, ↓mOps, mVal, mBase, vPtr, Int.reduceLT, Int.reduceAdd, Int.reduceSub, Int.reduceLE, Int.reduceToNat, Int.reduceNeg, ite_true, ite_false, Nat.reduceAdd, Nat.reduceSub, Nat.reduceMul, Nat.reduceEqDiff, Nat.reduceLeDiff, reduceIte, ite_ne, wrap_i64, boundN_int, r1, hvb], by simp (maxSteps := 2000000) (disch := first | omega | assumption) only [↓mCode, ↓mOps, mVal, mBase, vPtr, Int.reduceLT, Int.reduceAdd, Int.reduceSub, Int.reduceLE, Int.reduceToNat, Int.reduceNeg, ite_true, ite_false, Nat.reduceAdd, Nat.reduceSub, Nat.reduceMul, Nat.reduceEqDiff, Nat.reduceLeDiff, reduceIte, ite_ne, wrap_i64, boundN_int, r9] <;> rfl, A.ext G8, B.ext G8⟩
    · have c2' : ((i : Int) < (lb.length : Int)) = False := eq_false (by omega)
      simp (maxSteps := 2000000) (disch := first | omega | assumption) only [↓mCode, ↓mOps, mVal, mBase, vPtr, Int.reduceLT, Int.reduceAdd, Int.reduceSub, Int.reduceLE, Int.reduceToNat, Int.reduceNeg, ite_true, ite_false, Nat.reduceAdd, Nat.reduceSub, Nat.reduceMul, Nat.reduceEqDiff, Nat.reduceLeDiff, reduceIte, ite_ne, wrap_i64, boundN_int, e1_tys, e1_fns, fn3, Tryz.f3, resultsK_eq, ty3, ty4, ty22, ty31, r0, r1, r9, a_len, b_len, c1', c2', ent5]
      exact K _ _ _ rfl
  · have c1' : ((i : Int) < (la.length : Int)) = False := eq_false (by omega)
    simp (maxSteps := 2000000) (disch := first | omega | assumption) only [↓mCode, ↓mOps, mVal, mBase, vPtr, Int.reduceLT, Int.reduceAdd, Int.reduceSub, Int.reduceLE, Int.reduceToNat, Int.reduceNeg, ite_true, ite_false, Nat.reduceAdd, Nat.reduceSub, Nat.reduceMul, Nat.reduceEqDiff, Nat.reduceLeDiff, reduceIte, ite_ne, wrap_i64, boundN_int, e1_tys, e1_fns, fn3, Tryz.f3, resultsK_eq, ty3, ty4, ty22, ty31, r0, r1, r9, a_len, b_len, c1', ent5]
    exact K _ _ _ rfl
end Go.Mir
