/- Walks: are the rows too many (the reference's Much)? Of any length. -/
import Derived.Test.YtnclpappnmoimaaGreatDoorAnsS
set_option linter.unusedSimpArgs false
set_option linter.unusedVariables false
namespace Go.Mir
open Go Go.Proofs Go.Srt
set_option maxRecDepth 4000
set_option maxHeartbeats 4000000

section
variable {α : Type} [DecidableEq α]
theorem compFrom_snoc (x : α) : ∀ (l : List α) (p y : α), compFrom p (l ++ [y]) = if y = (p :: l).getLast (by simp) then compFrom p l else compFrom p l ++ [y]
  | [], p, y => by
    simp only [List.nil_append, compFrom, List.getLast_singleton]
    by_cases c : y = p <;> simp [c]
  | z :: l, p, y => by
    have ih := compFrom_snoc x l z y
    have e : (p :: z :: l).getLast (by simp) = (z :: l).getLast (by simp) := List.getLast_cons (by simp)
    simp only [List.cons_append, compFrom, e]
    by_cases c : z = p
    · rw [if_pos c, if_pos c, ih]
    · rw [if_neg c, if_neg c, ih]
      split <;> simp

/-- one more at the end -/
theorem comp_range (x : α) {d : Nat → α} {i : Nat} (hi : 0 < i) : comp ((List.range (i + 1)).map d) = if d i = d (i - 1) then comp ((List.range i).map d) else comp ((List.range i).map d) ++ [d i] := by
  obtain ⟨j, rfl⟩ : ∃ j, i = j + 1 := ⟨i - 1, by omega⟩
  rw [List.range_succ, List.map_append]
  have e : ∀ l : List α, (l = (List.range (j + 1)).map d) → comp (l ++ [d (j + 1)]) = if d (j + 1) = d j then comp l else comp l ++ [d (j + 1)] := fun l hl => by
    cases l with
    | nil => simp at hl
    | cons p l =>
      have hlast : (p :: l).getLast (by simp) = d j := by
        have : ∀ (q : List α) (hq : q ≠ []), q = (List.range (j + 1)).map d → q.getLast hq = d j := fun q hq e => by
          subst e
          simp [List.range_succ]
        exact this _ _ hl
      simp only [List.cons_append, comp, compFrom_snoc x]
      rw [hlast]
      split <;> rfl
  exact e _ rfl
end

theorem clear22 {h : T O} {t : T V} {id off len L kk lo : Nat} {ex : Bool} {k : T O → Out} (h1 : h.get id = some (.cells t L 1)) (hp : 0 < len) (hb : off + len ≤ L) :
    clearK tys h 22 (.slice id off len ex kk lo) k = k (h.put id (some (.cells (layT t off (List.replicate len (V.base (.slice none 0 0)))) L 1))) := by
  have e0 : Nat.beq len 0 = false := by
    cases hb : Nat.beq len 0 with
    | false => rfl
    | true => have := Nat.eq_of_beq_eq_true hb; omega
  have e1 : (List.replicate len [V.base (Value.slice none 0 0)]).flatten = List.replicate len (V.base (.slice none 0 0)) := by
    clear hp hb e0
    induction len with
    | zero => rfl
    | succ n ih => rw [List.replicate_succ, List.flatten_cons, ih]; rfl
  have e2 : Nat.ble (off + len) L = true := Nat.ble_eq_true_of_le hb
  have e3 : allOne (List.replicate len (V.base (.slice none 0 0))) = true := allOne_of fun v hv => by rw [List.eq_of_mem_replicate hv]; rfl
  show sliceTy tys 22 (fun te => Bool.rec (motive := fun _ => Out) (repL len te.zero fun l => storeN h id off l k) (k h) (Nat.beq len 0)) = _
  rw [sliceTy_eq, ty22, om_some, slTyOf (te := { kind := .bool, size := 0, bytes := 0, zero := [] })]
  dsimp only
  rw [ty31, om_some]
  rw [e0]
  show repL len [V.base (.slice none 0 0)] (fun l => storeN h id off l k) = _
  rw [repL_eq, e1, storeN_eq, h1, om_some]
  show need (and (allOne _) (Nat.ble (off + (List.replicate len (V.base (.slice none 0 0))).length) L)) _ = _
  rw [List.length_replicate, e2, e3]; rfl

/-- one place changed -/
theorem DatA.set1 {h H : T O} {n0 n id L i j : Nat} {g : Nat → V} {d : Nat → List Tm} (D : DatA h n0 n id L g d) (hj : j < L) {T' : T V}
    (h1 : H.get id = some (.cells T' L 1)) (h2 : ∀ k, k < L → T'.get k = some (if k = i then g j else g k)) (h3 : ∀ k, k ≠ id → H.get k = h.get k) : DatA H n0 n id L (fun k => if k = i then g j else g k) (fun k => if k = i then d j else d k) := by
  obtain ⟨_, h4, h5, h6⟩ := D
  refine ⟨⟨T', h1, h2⟩, h4, h5, fun k hk => ?_⟩
  have ext : ∀ {v : V} {l : List Tm}, RowIn h n v l ∧ vid v ≠ some id → RowIn H n v l ∧ vid v ≠ some id := fun R =>
    ⟨⟨R.1.1.keep fun a ha => h3 a (by rintro rfl; exact R.2 ha), R.1.2⟩, R.2⟩
  dsimp only
  split
  · exact ext (h6 j hj)
  · exact ext (h6 k hk)

theorem OutAt.rowsIn {h : T O} {n0 n : Nat} {v : V} {ls : List (List Tm)} (R : OutAt h n0 n v ls) : RowsIn h n v ls := by
  rcases R with ⟨rfl, rfl⟩ | ⟨id, t, rfl, h1, h2, h3, g, hg⟩
  · exact ⟨fun id hid => (by cases hid), fun _ => undefV, .nil none, fun i hi => absurd hi (by simp)⟩
  · exact ⟨fun i hi => (by cases hi; exact h3), g, .slice _ _ _ _ _ _ (Nat.le_refl _) ⟨_, t, _, 1, h1, .inl rfl, by omega, fun j hj => by rw [Nat.zero_add]; exact (hg j (by omega)).1⟩, fun i hi => (hg i hi).2.1⟩

theorem DatA.rowsIn {h : T O} {n0 n id L c : Nat} {g : Nat → V} {d : Nat → List Tm} (D : DatA h n0 n id L g d) (hc : c ≤ L) : RowsIn h n (.slice id 0 c false 0 L) ((List.range c).map d) := by
  obtain ⟨⟨t, h1, h2⟩, h3, h4, h5⟩ := D
  have e : ((List.range c).map d).length = c := by simp
  refine ⟨fun i hi => (by cases hi; exact h4), g, by rw [e]; exact .slice _ _ _ _ _ _ hc ⟨_, t, _, 1, h1, .inl rfl, by omega, fun j hj => by rw [Nat.zero_add]; exact h2 j (by omega)⟩, fun i hi => ?_⟩
  rw [e] at hi
  rw [List.getD_eq_getElem?_getD, List.getElem?_map, List.getElem?_range hi]
  exact (h5 i (by omega)).1

theorem comp_one {α : Type} [DecidableEq α] {l : List α} (h : l.length < 2) : comp l = l := by
  match l, h with
  | [], _ => rfl
  | [x], _ => rfl

theorem compact_ok {h : T O} {n0 n : Nat} {v : V} {la : List (List Tm)} (R : OutAt h n0 n v la) (hn : la.length ≤ 1000) (hs : Small la) :
    Fn env1 25 [v, .func 21 [] []] h n (fun v' h' n' => RowsIn h' n' v' (comp la) ∧ n' = n ∧ ∀ j, j < n0 → h'.get j = h.get j) := by
  refine Fn.mk fn25 rfl fz25 (by simp) fun Q cs K => ?_
  have hrows := R.rows
  have l_len : ∀ {h' : T O} {e : Nat} {k : V → Out}, lenIn h' (.slice e) v k = k (.int .i64 (la.length : Int)) := (Dat.of R).len
  by_cases c0 : la.length < 2
  · have c0' : (la.length : Int) < 2 := by omega
    simp (maxSteps := 2000000) (disch := first | omega | assumption) only [↓mCode, ↓mOps, mVal, mBase, vPtr, Int.reduceLT, Int.reduceAdd, Int.reduceSub, Int.reduceLE, Int.reduceToNat, Int.reduceNeg, ite_true, ite_false, Nat.reduceAdd, Nat.reduceSub, Nat.reduceMul, Nat.reduceEqDiff, Nat.reduceLeDiff, reduceIte, ite_ne, wrap_i64, boundN_int, e1_tys, e1_fns, fn25, Tryz.f25, resultsK_eq, ty3, ty22, ty31, l_len, c0']
    exact K _ _ _ ⟨by rw [comp_one c0]; exact R.rowsIn, rfl, fun j hj => rfl⟩
  have c0' : ¬ (la.length : Int) < 2 := by omega
  simp (maxSteps := 2000000) (disch := first | omega | assumption) only [↓mCode, ↓mOps, mVal, mBase, vPtr, Int.reduceLT, Int.reduceAdd, Int.reduceSub, Int.reduceLE, Int.reduceToNat, Int.reduceNeg, ite_true, ite_false, Nat.reduceAdd, Nat.reduceSub, Nat.reduceMul, Nat.reduceEqDiff, Nat.reduceLeDiff, reduceIte, ite_ne, wrap_i64, boundN_int, e1_tys, e1_fns, fn25, Tryz.f25, resultsK_eq, ty3, ty22, ty31, l_len, c0']
  have hsr : ∀ j, j < la.length → ((fun j => la.getD j []) j).length ≤ 1000000 := hs
  have hcomp : ∀ d : Nat → List Tm, (∀ j, j < la.length → d j = la.getD j []) → comp la = comp ((List.range la.length).map d) := fun d hd => by
    congr 1
    conv => lhs; rw [← range_getD [] la]
    exact List.map_congr_left fun j hj => (hd j (List.mem_range.1 hj)).symm
  have D := Dat.of R
  rcases D with ⟨_, e⟩ | ⟨id, g, rfl, D⟩
  · exact absurd e (by omega)
  have hcomp := hcomp (fun j => la.getD j []) fun j hj => rfl
  generalize (fun j => la.getD j []) = d at *
  generalize hL : la.length = L at *
  refine W_loop (fun q regs h' n' => ∃ (k : Nat), q = L - k ∧ 1 ≤ k ∧ k ≤ L ∧ regs.get 0 = some (.slice id 0 L false 0 L) ∧ regs.get 1 = some (.func 21 [] []) ∧ regs.get 5 = some (.int .i64 (k : Int)) ∧ comp ((List.range k).map d) = (List.range k).map d ∧ h' = h ∧ n' = n)
    _ ⟨1, rfl, Nat.le_refl _, by omega, ?_, ?_, ?_, rfl, rfl, rfl⟩ ?_
  · simp (maxSteps := 2000000) (disch := first | omega | assumption) only [↓mCode, ↓mOps, mVal, mBase, vPtr, Int.reduceLT, Int.reduceAdd, Int.reduceSub, Int.reduceLE, Int.reduceToNat, Int.reduceNeg, ite_true, ite_false, Nat.reduceAdd, Nat.reduceSub, Nat.reduceMul, Nat.reduceEqDiff, Nat.reduceLeDiff, reduceIte, ite_ne, wrap_i64, boundN_int, e1_tys]
  · simp (maxSteps := 2000000) (disch := first | omega | assumption) only [↓mCode, ↓mOps, mVal, mBase, vPtr, Int.reduceLT, Int.reduceAdd, Int.reduceSub, Int.reduceLE, Int.reduceToNat, Int.reduceNeg, ite_true, ite_false, Nat.reduceAdd, Nat.reduceSub, Nat.reduceMul, Nat.reduceEqDiff, Nat.reduceLeDiff, reduceIte, ite_ne, wrap_i64, boundN_int, e1_tys]
  · simp (maxSteps := 2000000) (disch := first | omega | assumption) only [↓mCode, ↓mOps, mVal, mBase, vPtr, Int.reduceLT, Int.reduceAdd, Int.reduceSub, Int.reduceLE, Int.reduceToNat, Int.reduceNeg, ite_true, ite_false, Nat.reduceAdd, Nat.reduceSub, Nat.reduceMul, Nat.reduceEqDiff, Nat.reduceLeDiff, reduceIte, ite_ne, wrap_i64, boundN_int, e1_tys] <;> rfl
  rintro q regs h' n' ⟨k, rfl, hk1, hkL, r0, r1, r5, hc, rfl, rfl⟩ IH
  by_cases c1 : k < L
  · have c1' : (k : Int) < (L : Int) := by omega
    have e1 : ((k : Int) - 1).toNat = k - 1 := by omega
    have hA : ∀ {q : V → Out}, cellAt h' id k q = q (g k) := D.at c1
    have hB : ∀ {q : V → Out}, cellAt h' id (k - 1) q = q (g (k - 1)) := D.at (by omega)
    simp (maxSteps := 2000000) (disch := first | omega | assumption) only [↓mCode, ↓mOps, mVal, mBase, vPtr, Int.reduceLT, Int.reduceAdd, Int.reduceSub, Int.reduceLE, Int.reduceToNat, Int.reduceNeg, ite_true, ite_false, Nat.reduceAdd, Nat.reduceSub, Nat.reduceMul, Nat.reduceEqDiff, Nat.reduceLeDiff, reduceIte, ite_ne, wrap_i64, boundN_int, e1_tys, e1_fns, fn25, Tryz.f25, resultsK_eq, ty3, ty22, ty31, r0, r1, r5, l_len, c1']
    refine W_draw sr25_6 ss25_6 ?_ ?_
    · exact sk25_6
    simp (maxSteps := 2000000) (disch := first | omega | assumption) only [↓mCode, ↓mOps, mVal, mBase, vPtr, Int.reduceLT, Int.reduceAdd, Int.reduceSub, Int.reduceLE, Int.reduceToNat, Int.reduceNeg, ite_true, ite_false, Nat.reduceAdd, Nat.reduceSub, Nat.reduceMul, Nat.reduceEqDiff, Nat.reduceLeDiff, reduceIte, ite_ne, wrap_i64, boundN_int, e1_tys, e1_fns, fn25, Tryz.f25, resultsK_eq, ty3, ty22, ty31, r0, r1, r5, l_len, c1', e1, hA, hB, Nat.mul_one]
    refine (eqRows_ok (D.2.2.2 k c1).1.1 (D.2.2.2 (k - 1) (by omega)).1.1 (hsr k c1) (hsr (k - 1) (by omega))).call rfl e1_subs ?_
    rintro _ h' n' ⟨rfl, rfl, rfl⟩
    have hstep := comp_range (d := d) (i := k) [] (by omega)
    by_cases c3 : d k = d (k - 1)
    · have k1 : k = 0 ∨ k + 1 ≤ L := .inr c1
      simp (maxSteps := 2000000) (disch := first | omega | assumption) only [↓mCode, ↓mOps, mVal, mBase, vPtr, Int.reduceLT, Int.reduceAdd, Int.reduceSub, Int.reduceLE, Int.reduceToNat, Int.reduceNeg, ite_true, ite_false, Nat.reduceAdd, Nat.reduceSub, Nat.reduceMul, Nat.reduceEqDiff, Nat.reduceLeDiff, reduceIte, ite_ne, wrap_i64, boundN_int, e1_tys, e1_fns, fn25, Tryz.f25, resultsK_eq, ty3, ty22, ty31, r0, r1, r5, l_len, c3, Nat.mul_one, Nat.zero_add, k1]
      refine W_loopE (fun q regs h9 n9 => ∃ (k2 c : Nat) (g' : Nat → V) (d' : Nat → List Tm), q = L - (k + k2) ∧ 1 ≤ k2 ∧ k + k2 ≤ L ∧ k ≤ c ∧ c + 1 ≤ k + k2 ∧ regs.get 0 = some (.slice id 0 L false 0 L) ∧ regs.get 1 = some (.func 21 [] []) ∧ regs.get 5 = some (.int .i64 (c : Int)) ∧
        regs.get 6 = some (.slice id k (L - k) false k (L - k)) ∧ regs.get 7 = some (.int .i64 (k2 : Int)) ∧ DatA h9 n0 n9 id L g' d' ∧ (∀ x, k + k2 - 1 ≤ x → d' x = d x) ∧ (∀ j, j < L → (d' j).length ≤ 1000000) ∧ comp ((List.range (k + k2)).map d) = (List.range c).map d' ∧ n9 = n' ∧ ∀ j, j < n0 → h9.get j = h'.get j)
        (fun regs h9 n9 => ∃ (c : Nat) (g' : Nat → V) (d' : Nat → List Tm), c + 1 ≤ L ∧ regs.get 0 = some (.slice id 0 L false 0 L) ∧ regs.get 5 = some (.int .i64 (c : Int)) ∧
        DatA h9 n0 n9 id L g' d' ∧ comp ((List.range L).map d) = (List.range c).map d' ∧ n9 = n' ∧ ∀ j, j < n0 → h9.get j = h'.get j)
        _ ⟨1, k, g, d, rfl, Nat.le_refl _, by omega, Nat.le_refl _, Nat.le_refl _, ?_, ?_, ?_, ?_, ?_, D, fun _ _ => rfl, hsr, by rw [hstep, if_pos c3, hc], rfl, fun j hj => rfl⟩ ?_ ?_
      · simp (maxSteps := 2000000) (disch := first | omega | assumption) only [↓mCode, ↓mOps, mVal, mBase, vPtr, Int.reduceLT, Int.reduceAdd, Int.reduceSub, Int.reduceLE, Int.reduceToNat, Int.reduceNeg, ite_true, ite_false, Nat.reduceAdd, Nat.reduceSub, Nat.reduceMul, Nat.reduceEqDiff, Nat.reduceLeDiff, reduceIte, ite_ne, wrap_i64, boundN_int, r0]
      · simp (maxSteps := 2000000) (disch := first | omega | assumption) only [↓mCode, ↓mOps, mVal, mBase, vPtr, Int.reduceLT, Int.reduceAdd, Int.reduceSub, Int.reduceLE, Int.reduceToNat, Int.reduceNeg, ite_true, ite_false, Nat.reduceAdd, Nat.reduceSub, Nat.reduceMul, Nat.reduceEqDiff, Nat.reduceLeDiff, reduceIte, ite_ne, wrap_i64, boundN_int, r1]
      · simp (maxSteps := 2000000) (disch := first | omega | assumption) only [↓mCode, ↓mOps, mVal, mBase, vPtr, Int.reduceLT, Int.reduceAdd, Int.reduceSub, Int.reduceLE, Int.reduceToNat, Int.reduceNeg, ite_true, ite_false, Nat.reduceAdd, Nat.reduceSub, Nat.reduceMul, Nat.reduceEqDiff, Nat.reduceLeDiff, reduceIte, ite_ne, wrap_i64, boundN_int, r5]
      · simp (maxSteps := 2000000) (disch := first | omega | assumption) only [↓mCode, ↓mOps, mVal, mBase, vPtr, Int.reduceLT, Int.reduceAdd, Int.reduceSub, Int.reduceLE, Int.reduceToNat, Int.reduceNeg, ite_true, ite_false, Nat.reduceAdd, Nat.reduceSub, Nat.reduceMul, Nat.reduceEqDiff, Nat.reduceLeDiff, reduceIte, ite_ne, wrap_i64, boundN_int, r5]
      · simp (maxSteps := 2000000) (disch := first | omega | assumption) only [↓mCode, ↓mOps, mVal, mBase, vPtr, Int.reduceLT, Int.reduceAdd, Int.reduceSub, Int.reduceLE, Int.reduceToNat, Int.reduceNeg, ite_true, ite_false, Nat.reduceAdd, Nat.reduceSub, Nat.reduceMul, Nat.reduceEqDiff, Nat.reduceLeDiff, reduceIte, ite_ne, wrap_i64, boundN_int, r5] <;> rfl
      · rintro t hexit q regs h9 n9 ⟨k2, c, g', d', e0, hk2, hkL2, hkc, hck, r0, r1, r5, r6, r7, D2, hd, hsr, hcc, rfl, hk⟩ IH2
        by_cases c4 : k + k2 < L
        · have c4' : (k2 : Int) < ((L - k : Nat) : Int) := by omega
          have e1 : ((k2 : Int) - 1).toNat = k2 - 1 := by omega
          have hA : ∀ {q : V → Out}, cellAt h9 id (k + k2) q = q (g' (k + k2)) := D2.at c4
          have hB : ∀ {q : V → Out}, cellAt h9 id (k + (k2 - 1)) q = q (g' (k + (k2 - 1))) := D2.at (by omega)
          simp (maxSteps := 2000000) (disch := first | omega | assumption) only [↓mCode, ↓mOps, mVal, mBase, vPtr, Int.reduceLT, Int.reduceAdd, Int.reduceSub, Int.reduceLE, Int.reduceToNat, Int.reduceNeg, ite_true, ite_false, Nat.reduceAdd, Nat.reduceSub, Nat.reduceMul, Nat.reduceEqDiff, Nat.reduceLeDiff, reduceIte, ite_ne, wrap_i64, boundN_int, e1_tys, e1_fns, fn25, Tryz.f25, resultsK_eq, ty3, ty22, ty31, r0, r1, r5, r6, r7, c4', Nat.mul_one]
          refine W_draw sr25_11 ss25_11 ?_ ?_
          · exact sk25_11
          simp (maxSteps := 2000000) (disch := first | omega | assumption) only [↓mCode, ↓mOps, mVal, mBase, vPtr, Int.reduceLT, Int.reduceAdd, Int.reduceSub, Int.reduceLE, Int.reduceToNat, Int.reduceNeg, ite_true, ite_false, Nat.reduceAdd, Nat.reduceSub, Nat.reduceMul, Nat.reduceEqDiff, Nat.reduceLeDiff, reduceIte, ite_ne, wrap_i64, boundN_int, e1_tys, e1_fns, fn25, Tryz.f25, resultsK_eq, ty3, ty22, ty31, r0, r1, r5, r6, r7, c4', e1, hA, hB, Nat.mul_one]
          refine (eqRows_ok (D2.2.2.2 (k + k2) c4).1.1 (D2.2.2.2 (k + (k2 - 1)) (by omega)).1.1 (hsr _ c4) (hsr _ (by omega))).call rfl e1_subs ?_
          rintro _ h9 n9 ⟨rfl, rfl, rfl⟩
          have hstep2 := comp_range (d := d) (i := k + k2) [] (by omega)
          have q1 : d' (k + k2) = d (k + k2) := hd _ (by omega)
          have q2 : d' (k + (k2 - 1)) = d (k + k2 - 1) := by rw [show k + (k2 - 1) = k + k2 - 1 by omega]; exact hd _ (by omega)
          by_cases c5 : d' (k + k2) = d' (k + (k2 - 1))
          · simp (maxSteps := 2000000) (disch := first | omega | assumption) only [↓mCode, ↓mOps, mVal, mBase, vPtr, Int.reduceLT, Int.reduceAdd, Int.reduceSub, Int.reduceLE, Int.reduceToNat, Int.reduceNeg, ite_true, ite_false, Nat.reduceAdd, Nat.reduceSub, Nat.reduceMul, Nat.reduceEqDiff, Nat.reduceLeDiff, reduceIte, ite_ne, wrap_i64, boundN_int, e1_tys, e1_fns, fn25, Tryz.f25, resultsK_eq, ty3, ty22, ty31, r0, r1, r5, r6, r7, c5, Nat.mul_one]
            refine IH2 (L - (k + (k2 + 1))) _ _ _ (by omega) ⟨k2 + 1, c, g', d', rfl, by omega, by omega, hkc, by omega, by simp (maxSteps := 2000000) (disch := first | omega | assumption) only [↓mCode, ↓mOps, mVal, mBase, vPtr, Int.reduceLT, Int.reduceAdd, Int.reduceSub, Int.reduceLE, Int.reduceToNat, Int.reduceNeg, ite_true, ite_false, Nat.reduceAdd, Nat.reduceSub, Nat.reduceMul, Nat.reduceEqDiff, Nat.reduceLeDiff, reduceIte, ite_ne, wrap_i64, boundN_int, r0], by simp (maxSteps := 2000000) (disch := first | omega | assumption) only [↓mCode, ↓mOps, mVal, mBase, vPtr, Int.reduceLT, Int.reduceAdd, Int.reduceSub, Int.reduceLE, Int.reduceToNat, Int.reduceNeg, ite_true, ite_false, Nat.reduceAdd, Nat.reduceSub, Nat.reduceMul, Nat.reduceEqDiff, Nat.reduceLeDiff, reduceIte, ite_ne, wrap_i64, boundN_int, r1], by simp (maxSteps := 2000000) (disch := first | omega | assumption) only [↓mCode, ↓mOps, mVal, mBase, vPtr, Int.reduceLT, Int.reduceAdd, Int.reduceSub, Int.reduceLE, Int.reduceToNat, Int.reduceNeg, ite_true, ite_false, Nat.reduceAdd, Nat.reduceSub, Nat.reduceMul, Nat.reduceEqDiff, Nat.reduceLeDiff, reduceIte, ite_ne, wrap_i64, boundN_int, r5], by simp (maxSteps := 2000000) (disch := first | omega | assumption) only [↓mCode, ↓mOps, mVal, mBase, vPtr, Int.reduceLT, Int.reduceAdd, Int.reduceSub, Int.reduceLE, Int.reduceToNat, Int.reduceNeg, ite_true, ite_false, Nat.reduceAdd, Nat.reduceSub, Nat.reduceMul, Nat.reduceEqDiff, Nat.reduceLeDiff, reduceIte, ite_ne, wrap_i64, boundN_int, r6], by simp (maxSteps := 2000000) (disch := first | omega | assumption) only [↓mCode, ↓mOps, mVal, mBase, vPtr, Int.reduceLT, Int.reduceAdd, Int.reduceSub, Int.reduceLE, Int.reduceToNat, Int.reduceNeg, ite_true, ite_false, Nat.reduceAdd, Nat.reduceSub, Nat.reduceMul, Nat.reduceEqDiff, Nat.reduceLeDiff, reduceIte, ite_ne, wrap_i64, boundN_int, r7] <;> rfl, D2, fun x hx => hd x (by omega), hsr, ?_, rfl, hk⟩
            rw [show k + (k2 + 1) = k + k2 + 1 by omega, hstep2, if_pos (by rw [← q1, ← q2]; exact c5)]
            exact hcc
          · obtain ⟨t9, g9, gt9⟩ := D2.1
            have oA : oneV (g' (k + k2)) = true := (D2.2.2.2 (k + k2) c4).1.1.one
            have cA : cellsOf (g' (k + k2)) = [g' (k + k2)] := cellsOf_one oA
            simp (maxSteps := 2000000) (disch := first | omega | assumption) only [↓mCode, ↓mOps, mVal, mBase, vPtr, Int.reduceLT, Int.reduceAdd, Int.reduceSub, Int.reduceLE, Int.reduceToNat, Int.reduceNeg, ite_true, ite_false, Nat.reduceAdd, Nat.reduceSub, Nat.reduceMul, Nat.reduceEqDiff, Nat.reduceLeDiff, reduceIte, ite_ne, wrap_i64, boundN_int, e1_tys, e1_fns, fn25, Tryz.f25, resultsK_eq, ty3, ty22, ty31, r0, r1, r5, r6, r7, c5, hA, g9, oA, cA, Nat.mul_one, Nat.zero_add]
            have hid := D2.2.1
            refine IH2 (L - (k + (k2 + 1))) _ _ _ (by omega) ⟨k2 + 1, c + 1, _, _, rfl, by omega, by omega, by omega, by omega, by simp (maxSteps := 2000000) (disch := first | omega | assumption) only [↓mCode, ↓mOps, mVal, mBase, vPtr, Int.reduceLT, Int.reduceAdd, Int.reduceSub, Int.reduceLE, Int.reduceToNat, Int.reduceNeg, ite_true, ite_false, Nat.reduceAdd, Nat.reduceSub, Nat.reduceMul, Nat.reduceEqDiff, Nat.reduceLeDiff, reduceIte, ite_ne, wrap_i64, boundN_int, r0], by simp (maxSteps := 2000000) (disch := first | omega | assumption) only [↓mCode, ↓mOps, mVal, mBase, vPtr, Int.reduceLT, Int.reduceAdd, Int.reduceSub, Int.reduceLE, Int.reduceToNat, Int.reduceNeg, ite_true, ite_false, Nat.reduceAdd, Nat.reduceSub, Nat.reduceMul, Nat.reduceEqDiff, Nat.reduceLeDiff, reduceIte, ite_ne, wrap_i64, boundN_int, r1], by simp (maxSteps := 2000000) (disch := first | omega | assumption) only [↓mCode, ↓mOps, mVal, mBase, vPtr, Int.reduceLT, Int.reduceAdd, Int.reduceSub, Int.reduceLE, Int.reduceToNat, Int.reduceNeg, ite_true, ite_false, Nat.reduceAdd, Nat.reduceSub, Nat.reduceMul, Nat.reduceEqDiff, Nat.reduceLeDiff, reduceIte, ite_ne, wrap_i64, boundN_int, r5] <;> rfl, by simp (maxSteps := 2000000) (disch := first | omega | assumption) only [↓mCode, ↓mOps, mVal, mBase, vPtr, Int.reduceLT, Int.reduceAdd, Int.reduceSub, Int.reduceLE, Int.reduceToNat, Int.reduceNeg, ite_true, ite_false, Nat.reduceAdd, Nat.reduceSub, Nat.reduceMul, Nat.reduceEqDiff, Nat.reduceLeDiff, reduceIte, ite_ne, wrap_i64, boundN_int, r6], by simp (maxSteps := 2000000) (disch := first | omega | assumption) only [↓mCode, ↓mOps, mVal, mBase, vPtr, Int.reduceLT, Int.reduceAdd, Int.reduceSub, Int.reduceLE, Int.reduceToNat, Int.reduceNeg, ite_true, ite_false, Nat.reduceAdd, Nat.reduceSub, Nat.reduceMul, Nat.reduceEqDiff, Nat.reduceLeDiff, reduceIte, ite_ne, wrap_i64, boundN_int, r7] <;> rfl,
              D2.set1 (i := c) (j := k + k2) c4 (T.get_put _ _ _ _ |>.trans (if_pos rfl)) (fun x hx => ?_) (fun x hx => by rw [T.get_put, if_neg hx]), fun x hx => ?_, fun j hj => ?_, ?_, rfl, fun j hj => ?_⟩
            · rw [T.get_put]
              split
              · rfl
              · exact gt9 x hx
            · rw [if_neg (by omega)]; exact hd x (by omega)
            · split
              · exact hsr _ c4
              · exact hsr j hj
            · rw [show k + (k2 + 1) = k + k2 + 1 by omega, hstep2, if_neg (by rw [← q1, ← q2]; exact c5), hcc, List.range_succ, List.map_append]
              congr 1
              · refine List.map_congr_left fun j hj => ?_
                have := List.mem_range.1 hj
                rw [if_neg (by omega)]
              · show [d (k + k2)] = [if c = c then _ else _]
                rw [if_pos rfl, q1]
            · rw [T.get_put, if_neg (by omega)]; exact hk j hj
        · have c4' : ¬ (k2 : Int) < ((L - k : Nat) : Int) := by omega
          simp (maxSteps := 2000000) (disch := first | omega | assumption) only [↓mCode, ↓mOps, mVal, mBase, vPtr, Int.reduceLT, Int.reduceAdd, Int.reduceSub, Int.reduceLE, Int.reduceToNat, Int.reduceNeg, ite_true, ite_false, Nat.reduceAdd, Nat.reduceSub, Nat.reduceMul, Nat.reduceEqDiff, Nat.reduceLeDiff, reduceIte, ite_ne, wrap_i64, boundN_int, e1_tys, e1_fns, fn25, Tryz.f25, resultsK_eq, ty3, ty22, ty31, r0, r1, r5, r6, r7, c4', Nat.mul_one]
          have e : k + k2 = L := by omega
          rw [e] at hcc
          exact hexit _ _ _ ⟨c, g', d', by omega, by simp (maxSteps := 2000000) (disch := first | omega | assumption) only [↓mCode, ↓mOps, mVal, mBase, vPtr, Int.reduceLT, Int.reduceAdd, Int.reduceSub, Int.reduceLE, Int.reduceToNat, Int.reduceNeg, ite_true, ite_false, Nat.reduceAdd, Nat.reduceSub, Nat.reduceMul, Nat.reduceEqDiff, Nat.reduceLeDiff, reduceIte, ite_ne, wrap_i64, boundN_int, r0], by simp (maxSteps := 2000000) (disch := first | omega | assumption) only [↓mCode, ↓mOps, mVal, mBase, vPtr, Int.reduceLT, Int.reduceAdd, Int.reduceSub, Int.reduceLE, Int.reduceToNat, Int.reduceNeg, ite_true, ite_false, Nat.reduceAdd, Nat.reduceSub, Nat.reduceMul, Nat.reduceEqDiff, Nat.reduceLeDiff, reduceIte, ite_ne, wrap_i64, boundN_int, r5], D2, hcc, rfl, hk⟩
      · rintro regs h9 n9 ⟨c, g', d', hcL, r0, r5, D2, hcc, rfl, hk⟩
        have k1 : c = 0 ∨ c + 1 ≤ L := .inr hcL
        obtain ⟨⟨t9, g9, gt9⟩, d1, d2, d3⟩ := D2
        have b1 : c ≤ L := by omega
        have clr : ∀ {k : T O → Out}, clearK tys h9 22 (.slice id c (L - c) false c (L - c)) k = k (h9.put id (some (.cells (layT t9 c (List.replicate (L - c) (V.base (.slice none 0 0)))) L 1))) := clear22 g9 (by omega) (by omega)
        simp (maxSteps := 2000000) (disch := first | omega | assumption) only [↓mCode, ↓mOps, mVal, mBase, vPtr, Int.reduceLT, Int.reduceAdd, Int.reduceSub, Int.reduceLE, Int.reduceToNat, Int.reduceNeg, ite_true, ite_false, Nat.reduceAdd, Nat.reduceSub, Nat.reduceMul, Nat.reduceEqDiff, Nat.reduceLeDiff, reduceIte, ite_ne, wrap_i64, boundN_int, e1_tys, e1_fns, fn25, Tryz.f25, resultsK_eq, ty3, ty22, ty31, r0, r5, Nat.mul_one, Nat.zero_add, k1, b1, clr, Nat.sub_zero]
        refine K _ _ _ ⟨?_, rfl, fun j hj => ?_⟩
        · rw [hcomp, hcc]
          have e : ((List.range c).map d').length = c := by simp
          have S : Sl (h9.put id (some (.cells (layT t9 c (List.replicate (L - c) (V.base (.slice none 0 0)))) L 1))) 1 g' (.slice id 0 c false 0 L) c := by
            refine .slice _ _ _ _ _ _ b1 ⟨_, _, L, 1, T.get_put _ _ _ _ |>.trans (if_pos rfl), .inl rfl, by omega, fun j hj => ?_⟩
            rw [Nat.zero_add, layT_get, if_neg (by omega)]; exact gt9 j (by omega)
          refine ⟨fun i hi => (by cases hi; exact d2), g', by rw [e]; exact S, fun i hi => ?_⟩
          rw [e] at hi
          rw [List.getD_eq_getElem?_getD, List.getElem?_map, List.getElem?_range hi]
          have R := d3 i (by omega)
          exact ⟨R.1.1.keep fun a ha => by rw [T.get_put, if_neg (by rintro rfl; exact R.2 ha)], R.1.2⟩
        · rw [T.get_put, if_neg (by omega)]; exact hk j hj
    · simp (maxSteps := 2000000) (disch := first | omega | assumption) only [↓mCode, ↓mOps, mVal, mBase, vPtr, Int.reduceLT, Int.reduceAdd, Int.reduceSub, Int.reduceLE, Int.reduceToNat, Int.reduceNeg, ite_true, ite_false, Nat.reduceAdd, Nat.reduceSub, Nat.reduceMul, Nat.reduceEqDiff, Nat.reduceLeDiff, reduceIte, ite_ne, wrap_i64, boundN_int, e1_tys, e1_fns, fn25, Tryz.f25, resultsK_eq, ty3, ty22, ty31, r0, r1, r5, l_len, c3]
      refine IH (L - (k + 1)) _ _ _ (by omega) ⟨k + 1, rfl, by omega, by omega, by simp (maxSteps := 2000000) (disch := first | omega | assumption) only [↓mCode, ↓mOps, mVal, mBase, vPtr, Int.reduceLT, Int.reduceAdd, Int.reduceSub, Int.reduceLE, Int.reduceToNat, Int.reduceNeg, ite_true, ite_false, Nat.reduceAdd, Nat.reduceSub, Nat.reduceMul, Nat.reduceEqDiff, Nat.reduceLeDiff, reduceIte, ite_ne, wrap_i64, boundN_int, r0], by simp (maxSteps := 2000000) (disch := first | omega | assumption) only [↓mCode, ↓mOps, mVal, mBase, vPtr, Int.reduceLT, Int.reduceAdd, Int.reduceSub, Int.reduceLE, Int.reduceToNat, Int.reduceNeg, ite_true, ite_false, Nat.reduceAdd, Nat.reduceSub, Nat.reduceMul, Nat.reduceEqDiff, Nat.reduceLeDiff, reduceIte, ite_ne, wrap_i64, boundN_int, r1], by simp (maxSteps := 2000000) (disch := first | omega | assumption) only [↓mCode, ↓mOps, mVal, mBase, vPtr, Int.reduceLT, Int.reduceAdd, Int.reduceSub, Int.reduceLE, Int.reduceToNat, Int.reduceNeg, ite_true, ite_false, Nat.reduceAdd, Nat.reduceSub, Nat.reduceMul, Nat.reduceEqDiff, Nat.reduceLeDiff, reduceIte, ite_ne, wrap_i64, boundN_int, r5] <;> rfl, ?_, rfl, rfl⟩
      rw [hstep, if_neg c3, hc, List.range_succ, List.map_append]; rfl
  · have c1' : ¬ (k : Int) < (L : Int) := by omega
    simp (maxSteps := 2000000) (disch := first | omega | assumption) only [↓mCode, ↓mOps, mVal, mBase, vPtr, Int.reduceLT, Int.reduceAdd, Int.reduceSub, Int.reduceLE, Int.reduceToNat, Int.reduceNeg, ite_true, ite_false, Nat.reduceAdd, Nat.reduceSub, Nat.reduceMul, Nat.reduceEqDiff, Nat.reduceLeDiff, reduceIte, ite_ne, wrap_i64, boundN_int, e1_tys, e1_fns, fn25, Tryz.f25, resultsK_eq, ty3, ty22, ty31, r0, r1, r5, l_len, c1']
    have e : k = L := by omega
    refine K _ _ _ ⟨?_, rfl, fun j hj => rfl⟩
    rw [hcomp, ← e, hc, e]
    exact D.rowsIn (Nat.le_refl _)
end Go.Mir
namespace Go.Mir
open Go Go.Proofs Go.Srt
set_option maxRecDepth 4000
set_option maxHeartbeats 2000000

theorem much_any {h : T O} {n : Nat} {va : V} {la : List (List Tm)} (ha : Rows h va la) :
    Fn env1 4 [va] h n (fun v h' n' => (∃ b, v = .bool b ∧ (b = false → Few la)) ∧ h' = h ∧ n' = n) := by
  refine Fn.mk fn4 rfl fz4 (by simp) fun Q cs K => ?_
  have l_len : ∀ {e : Nat} {k : V → Out}, lenIn h (.slice e) va k = k (.int .i64 (la.length : Int)) := ha.len
  simp (maxSteps := 2000000) (disch := first | omega | assumption) only [↓mCode, ↓mOps, mVal, mBase, vPtr, Int.reduceLT, Int.reduceAdd, Int.reduceSub, Int.reduceLE, Int.reduceToNat, Int.reduceNeg, ite_true, ite_false, Nat.reduceAdd, Nat.reduceSub, Nat.reduceMul, Nat.reduceEqDiff, Nat.reduceLeDiff, reduceIte, ite_ne, wrap_i64, boundN_int, e1_tys, e1_fns, fn4, Tryz.f4, resultsK_eq, ty3, ty22, ty31, l_len]
  refine W_loopE (fun m regs h' n' => ∃ (i : Nat) (c : Int), m = la.length - i ∧ i ≤ la.length ∧ i ≤ 101 ∧ 0 ≤ c ∧ c ≤ 30000 ∧ regs.get 0 = some va ∧ regs.get 3 = some (.int .i64 c) ∧ regs.get 4 = some (.int .i64 (i : Int)) ∧
    (∀ j, j < i → (la.getD j []).length ≤ 100) ∧ h' = h ∧ n' = n)
    (fun regs h' n' => regs.get 0 = some va ∧ (la.length ≤ 100 → ∀ j, j < la.length → (la.getD j []).length ≤ 100) ∧ h' = h ∧ n' = n)
    _ ⟨0, 0, rfl, by omega, by omega, by omega, by omega, ?_, ?_, ?_, fun j hj => by omega, rfl, rfl⟩ ?_ ?_
  · simp (maxSteps := 2000000) (disch := first | omega | assumption) only [↓mCode, ↓mOps, mVal, mBase, vPtr, Int.reduceLT, Int.reduceAdd, Int.reduceSub, Int.reduceLE, Int.reduceToNat, Int.reduceNeg, ite_true, ite_false, Nat.reduceAdd, Nat.reduceSub, Nat.reduceMul, Nat.reduceEqDiff, Nat.reduceLeDiff, reduceIte, ite_ne, wrap_i64, boundN_int, e1_tys]
  · simp (maxSteps := 2000000) (disch := first | omega | assumption) only [↓mCode, ↓mOps, mVal, mBase, vPtr, Int.reduceLT, Int.reduceAdd, Int.reduceSub, Int.reduceLE, Int.reduceToNat, Int.reduceNeg, ite_true, ite_false, Nat.reduceAdd, Nat.reduceSub, Nat.reduceMul, Nat.reduceEqDiff, Nat.reduceLeDiff, reduceIte, ite_ne, wrap_i64, boundN_int, e1_tys]
  · simp (maxSteps := 2000000) (disch := first | omega | assumption) only [↓mCode, ↓mOps, mVal, mBase, vPtr, Int.reduceLT, Int.reduceAdd, Int.reduceSub, Int.reduceLE, Int.reduceToNat, Int.reduceNeg, ite_true, ite_false, Nat.reduceAdd, Nat.reduceSub, Nat.reduceMul, Nat.reduceEqDiff, Nat.reduceLeDiff, reduceIte, ite_ne, wrap_i64, boundN_int, e1_tys]
  · rintro t hexit m regs h' n' ⟨i, c, rfl, hi, hi2, hc0, hc1, r0, r3, r4, hj, rfl, rfl⟩ IH
    by_cases c1 : i < la.length
    · have c1' : (i : Int) < (la.length : Int) := by omega
      by_cases c2 : i ≤ 100
      · have c2' : (i : Int) ≤ 100 := by omega
        obtain ⟨ida, ofa, exa, ka, loa, ra, hvl, hloa, hca, hra⟩ := ha.get c1
        simp (maxSteps := 2000000) (disch := first | omega | assumption) only [↓mCode, ↓mOps, mVal, mBase, vPtr, Int.reduceLT, Int.reduceAdd, Int.reduceSub, Int.reduceLE, Int.reduceToNat, Int.reduceNeg, ite_true, ite_false, Nat.reduceAdd, Nat.reduceSub, Nat.reduceMul, Nat.reduceEqDiff, Nat.reduceLeDiff, reduceIte, ite_ne, wrap_i64, boundN_int, e1_tys, e1_fns, fn4, Tryz.f4, resultsK_eq, ty3, ty22, ty31, r0, r3, r4, l_len, c1', c2', hvl, hca, Nat.mul_one]
        have r_len : ∀ {e : Nat} {k : V → Out}, lenIn h' (.slice e) ra k = k (.int .i64 ((la.getD i []).length : Int)) := Sl.len hra
        generalize hrow : la.getD i [] = row at *
        refine W_loopE (fun m regs h9 n9 => ∃ (k : Nat) (z : Int), m = row.length - k ∧ k ≤ row.length ∧ k ≤ 101 ∧ 0 ≤ z ∧ z ≤ 30000 + k * 60003 ∧ regs.get 0 = some va ∧ regs.get 3 = some (.int .i64 z) ∧ regs.get 4 = some (.int .i64 (i : Int)) ∧
          regs.get 5 = some (.int .i64 (k : Int)) ∧ h9 = h' ∧ n9 = n')
          (fun regs h9 n9 => ∃ z : Int, 0 ≤ z ∧ regs.get 0 = some va ∧ regs.get 3 = some (.int .i64 z) ∧ regs.get 4 = some (.int .i64 (i : Int)) ∧ h9 = h' ∧ n9 = n')
          _ ⟨0, c, rfl, by omega, by omega, hc0, by omega, ?_, ?_, ?_, ?_, rfl, rfl⟩ ?_ ?_
        · simp (maxSteps := 2000000) (disch := first | omega | assumption) only [↓mCode, ↓mOps, mVal, mBase, vPtr, Int.reduceLT, Int.reduceAdd, Int.reduceSub, Int.reduceLE, Int.reduceToNat, Int.reduceNeg, ite_true, ite_false, Nat.reduceAdd, Nat.reduceSub, Nat.reduceMul, Nat.reduceEqDiff, Nat.reduceLeDiff, reduceIte, ite_ne, wrap_i64, boundN_int, r0, hvl]
        · simp (maxSteps := 2000000) (disch := first | omega | assumption) only [↓mCode, ↓mOps, mVal, mBase, vPtr, Int.reduceLT, Int.reduceAdd, Int.reduceSub, Int.reduceLE, Int.reduceToNat, Int.reduceNeg, ite_true, ite_false, Nat.reduceAdd, Nat.reduceSub, Nat.reduceMul, Nat.reduceEqDiff, Nat.reduceLeDiff, reduceIte, ite_ne, wrap_i64, boundN_int, r3]
        · simp (maxSteps := 2000000) (disch := first | omega | assumption) only [↓mCode, ↓mOps, mVal, mBase, vPtr, Int.reduceLT, Int.reduceAdd, Int.reduceSub, Int.reduceLE, Int.reduceToNat, Int.reduceNeg, ite_true, ite_false, Nat.reduceAdd, Nat.reduceSub, Nat.reduceMul, Nat.reduceEqDiff, Nat.reduceLeDiff, reduceIte, ite_ne, wrap_i64, boundN_int, r4]
        · simp (maxSteps := 2000000) (disch := first | omega | assumption) only [↓mCode, ↓mOps, mVal, mBase, vPtr, Int.reduceLT, Int.reduceAdd, Int.reduceSub, Int.reduceLE, Int.reduceToNat, Int.reduceNeg, ite_true, ite_false, Nat.reduceAdd, Nat.reduceSub, Nat.reduceMul, Nat.reduceEqDiff, Nat.reduceLeDiff, reduceIte, ite_ne, wrap_i64, boundN_int, e1_tys]
        · rintro t2 hexit2 m regs h9 n9 ⟨k, z, rfl, hk, hk2, hz0, hz1, r0, r3, r4, r5, rfl, rfl⟩ IH2
          by_cases d1 : k < row.length
          · have d1' : (k : Int) < (row.length : Int) := by omega
            by_cases d2 : k ≤ 100
            · have d2' : (k : Int) ≤ 100 := by omega
              obtain ⟨idr, ofr, exr, kr, lor, hrl, hlor, hcr1, hcr2⟩ := hra.cells d1
              simp (maxSteps := 2000000) (disch := first | omega | assumption) only [↓mCode, ↓mOps, mVal, mBase, vPtr, Int.reduceLT, Int.reduceAdd, Int.reduceSub, Int.reduceLE, Int.reduceToNat, Int.reduceNeg, ite_true, ite_false, Nat.reduceAdd, Nat.reduceSub, Nat.reduceMul, Nat.reduceEqDiff, Nat.reduceLeDiff, reduceIte, ite_ne, wrap_i64, boundN_int, e1_tys, e1_fns, fn4, Tryz.f4, resultsK_eq, ty3, ty22, ty31, r0, r3, r4, r5, l_len, r_len, c1', c2', d1', d2', hvl, hca, hrl, Nat.mul_one]
              refine W_draw sr4_8 ss4_8 ?_ ?_
              · exact sk4_8
              simp (maxSteps := 2000000) (disch := first | omega | assumption) only [↓mCode, ↓mOps, mVal, mBase, vPtr, Int.reduceLT, Int.reduceAdd, Int.reduceSub, Int.reduceLE, Int.reduceToNat, Int.reduceNeg, ite_true, ite_false, Nat.reduceAdd, Nat.reduceSub, Nat.reduceMul, Nat.reduceEqDiff, Nat.reduceLeDiff, reduceIte, ite_ne, wrap_i64, boundN_int, e1_tys, e1_fns, fn4, Tryz.f4, resultsK_eq, ty3, ty9, ty22, ty31, ty35, r0, r3, r4, r5, l_len, r_len, c1', c2', d1', d2', hvl, hca, hrl, hcr1, hcr2, Nat.mul_one, minE]
              refine IH2 (row.length - (k + 1)) _ _ _ (by omega) ⟨k + 1, z + 1 + ((min (row.getD k (0, [], [])).2.1.length 30001 : Nat) : Int) + ((min (row.getD k (0, [], [])).2.2.length 30001 : Nat) : Int), rfl, by omega, by omega, by omega, by omega, ?_, ?_, ?_, ?_, rfl, rfl⟩
              · simp (maxSteps := 2000000) (disch := first | omega | assumption) only [↓mCode, ↓mOps, mVal, mBase, vPtr, Int.reduceLT, Int.reduceAdd, Int.reduceSub, Int.reduceLE, Int.reduceToNat, Int.reduceNeg, ite_true, ite_false, Nat.reduceAdd, Nat.reduceSub, Nat.reduceMul, Nat.reduceEqDiff, Nat.reduceLeDiff, reduceIte, ite_ne, wrap_i64, boundN_int, r0, hvl]
              · simp (maxSteps := 2000000) (disch := first | omega | assumption) only [↓mCode, ↓mOps, mVal, mBase, vPtr, Int.reduceLT, Int.reduceAdd, Int.reduceSub, Int.reduceLE, Int.reduceToNat, Int.reduceNeg, ite_true, ite_false, Nat.reduceAdd, Nat.reduceSub, Nat.reduceMul, Nat.reduceEqDiff, Nat.reduceLeDiff, reduceIte, ite_ne, wrap_i64, boundN_int, r3]
              · simp (maxSteps := 2000000) (disch := first | omega | assumption) only [↓mCode, ↓mOps, mVal, mBase, vPtr, Int.reduceLT, Int.reduceAdd, Int.reduceSub, Int.reduceLE, Int.reduceToNat, Int.reduceNeg, ite_true, ite_false, Nat.reduceAdd, Nat.reduceSub, Nat.reduceMul, Nat.reduceEqDiff, Nat.reduceLeDiff, reduceIte, ite_ne, wrap_i64, boundN_int, r4]
              · simp (maxSteps := 2000000) (disch := first | omega | assumption) only [↓mCode, ↓mOps, mVal, mBase, vPtr, Int.reduceLT, Int.reduceAdd, Int.reduceSub, Int.reduceLE, Int.reduceToNat, Int.reduceNeg, ite_true, ite_false, Nat.reduceAdd, Nat.reduceSub, Nat.reduceMul, Nat.reduceEqDiff, Nat.reduceLeDiff, reduceIte, ite_ne, wrap_i64, boundN_int, r5]; rfl
            · have d2' : ¬ (k : Int) ≤ 100 := by omega
              simp (maxSteps := 2000000) (disch := first | omega | assumption) only [↓mCode, ↓mOps, mVal, mBase, vPtr, Int.reduceLT, Int.reduceAdd, Int.reduceSub, Int.reduceLE, Int.reduceToNat, Int.reduceNeg, ite_true, ite_false, Nat.reduceAdd, Nat.reduceSub, Nat.reduceMul, Nat.reduceEqDiff, Nat.reduceLeDiff, reduceIte, ite_ne, wrap_i64, boundN_int, e1_tys, e1_fns, fn4, Tryz.f4, resultsK_eq, ty3, ty22, ty31, r0, r3, r4, r5, l_len, r_len, c1', d1', d2', hvl, hca, Nat.mul_one]
              refine hexit2 _ _ _ ⟨z, hz0, ?_, ?_, ?_, rfl, rfl⟩
              · simp (maxSteps := 2000000) (disch := first | omega | assumption) only [↓mCode, ↓mOps, mVal, mBase, vPtr, Int.reduceLT, Int.reduceAdd, Int.reduceSub, Int.reduceLE, Int.reduceToNat, Int.reduceNeg, ite_true, ite_false, Nat.reduceAdd, Nat.reduceSub, Nat.reduceMul, Nat.reduceEqDiff, Nat.reduceLeDiff, reduceIte, ite_ne, wrap_i64, boundN_int, r0, hvl]
              · simp (maxSteps := 2000000) (disch := first | omega | assumption) only [↓mCode, ↓mOps, mVal, mBase, vPtr, Int.reduceLT, Int.reduceAdd, Int.reduceSub, Int.reduceLE, Int.reduceToNat, Int.reduceNeg, ite_true, ite_false, Nat.reduceAdd, Nat.reduceSub, Nat.reduceMul, Nat.reduceEqDiff, Nat.reduceLeDiff, reduceIte, ite_ne, wrap_i64, boundN_int, r3]
              · simp (maxSteps := 2000000) (disch := first | omega | assumption) only [↓mCode, ↓mOps, mVal, mBase, vPtr, Int.reduceLT, Int.reduceAdd, Int.reduceSub, Int.reduceLE, Int.reduceToNat, Int.reduceNeg, ite_true, ite_false, Nat.reduceAdd, Nat.reduceSub, Nat.reduceMul, Nat.reduceEqDiff, Nat.reduceLeDiff, reduceIte, ite_ne, wrap_i64, boundN_int, r4]
          · have d1' : ¬ (k : Int) < (row.length : Int) := by omega
            simp (maxSteps := 2000000) (disch := first | omega | assumption) only [↓mCode, ↓mOps, mVal, mBase, vPtr, Int.reduceLT, Int.reduceAdd, Int.reduceSub, Int.reduceLE, Int.reduceToNat, Int.reduceNeg, ite_true, ite_false, Nat.reduceAdd, Nat.reduceSub, Nat.reduceMul, Nat.reduceEqDiff, Nat.reduceLeDiff, reduceIte, ite_ne, wrap_i64, boundN_int, e1_tys, e1_fns, fn4, Tryz.f4, resultsK_eq, ty3, ty22, ty31, r0, r3, r4, r5, l_len, r_len, c1', d1', hvl, hca, Nat.mul_one]
            refine hexit2 _ _ _ ⟨z, hz0, ?_, ?_, ?_, rfl, rfl⟩
            · simp (maxSteps := 2000000) (disch := first | omega | assumption) only [↓mCode, ↓mOps, mVal, mBase, vPtr, Int.reduceLT, Int.reduceAdd, Int.reduceSub, Int.reduceLE, Int.reduceToNat, Int.reduceNeg, ite_true, ite_false, Nat.reduceAdd, Nat.reduceSub, Nat.reduceMul, Nat.reduceEqDiff, Nat.reduceLeDiff, reduceIte, ite_ne, wrap_i64, boundN_int, r0, hvl]
            · simp (maxSteps := 2000000) (disch := first | omega | assumption) only [↓mCode, ↓mOps, mVal, mBase, vPtr, Int.reduceLT, Int.reduceAdd, Int.reduceSub, Int.reduceLE, Int.reduceToNat, Int.reduceNeg, ite_true, ite_false, Nat.reduceAdd, Nat.reduceSub, Nat.reduceMul, Nat.reduceEqDiff, Nat.reduceLeDiff, reduceIte, ite_ne, wrap_i64, boundN_int, r3]
            · simp (maxSteps := 2000000) (disch := first | omega | assumption) only [↓mCode, ↓mOps, mVal, mBase, vPtr, Int.reduceLT, Int.reduceAdd, Int.reduceSub, Int.reduceLE, Int.reduceToNat, Int.reduceNeg, ite_true, ite_false, Nat.reduceAdd, Nat.reduceSub, Nat.reduceMul, Nat.reduceEqDiff, Nat.reduceLeDiff, reduceIte, ite_ne, wrap_i64, boundN_int, r4]
        · rintro regs h9 n9 ⟨z, hz0, r0, r3, r4, rfl, rfl⟩
          by_cases d1 : z > 30000
          · simp (maxSteps := 2000000) (disch := first | omega | assumption) only [↓mCode, ↓mOps, mVal, mBase, vPtr, Int.reduceLT, Int.reduceAdd, Int.reduceSub, Int.reduceLE, Int.reduceToNat, Int.reduceNeg, ite_true, ite_false, Nat.reduceAdd, Nat.reduceSub, Nat.reduceMul, Nat.reduceEqDiff, Nat.reduceLeDiff, reduceIte, ite_ne, wrap_i64, boundN_int, e1_tys, e1_fns, fn4, Tryz.f4, resultsK_eq, ty3, ty22, ty31, r0, r3, r4, l_len, r_len, c1', d1, hvl, hca, Nat.mul_one]
            exact K _ _ _ ⟨⟨true, rfl, fun h => (by cases h)⟩, rfl, rfl⟩
          · by_cases d2 : row.length > 100
            · have d2' : (row.length : Int) > 100 := by omega
              simp (maxSteps := 2000000) (disch := first | omega | assumption) only [↓mCode, ↓mOps, mVal, mBase, vPtr, Int.reduceLT, Int.reduceAdd, Int.reduceSub, Int.reduceLE, Int.reduceToNat, Int.reduceNeg, ite_true, ite_false, Nat.reduceAdd, Nat.reduceSub, Nat.reduceMul, Nat.reduceEqDiff, Nat.reduceLeDiff, reduceIte, ite_ne, wrap_i64, boundN_int, e1_tys, e1_fns, fn4, Tryz.f4, resultsK_eq, ty3, ty22, ty31, r0, r3, r4, l_len, r_len, c1', d1, d2', hvl, hca, Nat.mul_one]
              exact K _ _ _ ⟨⟨true, rfl, fun h => (by cases h)⟩, rfl, rfl⟩
            · have d2' : ¬ (row.length : Int) > 100 := by omega
              simp (maxSteps := 2000000) (disch := first | omega | assumption) only [↓mCode, ↓mOps, mVal, mBase, vPtr, Int.reduceLT, Int.reduceAdd, Int.reduceSub, Int.reduceLE, Int.reduceToNat, Int.reduceNeg, ite_true, ite_false, Nat.reduceAdd, Nat.reduceSub, Nat.reduceMul, Nat.reduceEqDiff, Nat.reduceLeDiff, reduceIte, ite_ne, wrap_i64, boundN_int, e1_tys, e1_fns, fn4, Tryz.f4, resultsK_eq, ty3, ty22, ty31, r0, r3, r4, l_len, r_len, c1', d1, d2', hvl, hca, Nat.mul_one]
              refine IH (la.length - (i + 1)) _ _ _ (by omega) ⟨i + 1, z, rfl, by omega, by omega, hz0, by omega, ?_, ?_, ?_, fun j hj' => ?_, rfl, rfl⟩
              · simp (maxSteps := 2000000) (disch := first | omega | assumption) only [↓mCode, ↓mOps, mVal, mBase, vPtr, Int.reduceLT, Int.reduceAdd, Int.reduceSub, Int.reduceLE, Int.reduceToNat, Int.reduceNeg, ite_true, ite_false, Nat.reduceAdd, Nat.reduceSub, Nat.reduceMul, Nat.reduceEqDiff, Nat.reduceLeDiff, reduceIte, ite_ne, wrap_i64, boundN_int, r0, hvl]
              · simp (maxSteps := 2000000) (disch := first | omega | assumption) only [↓mCode, ↓mOps, mVal, mBase, vPtr, Int.reduceLT, Int.reduceAdd, Int.reduceSub, Int.reduceLE, Int.reduceToNat, Int.reduceNeg, ite_true, ite_false, Nat.reduceAdd, Nat.reduceSub, Nat.reduceMul, Nat.reduceEqDiff, Nat.reduceLeDiff, reduceIte, ite_ne, wrap_i64, boundN_int, r3]
              · simp (maxSteps := 2000000) (disch := first | omega | assumption) only [↓mCode, ↓mOps, mVal, mBase, vPtr, Int.reduceLT, Int.reduceAdd, Int.reduceSub, Int.reduceLE, Int.reduceToNat, Int.reduceNeg, ite_true, ite_false, Nat.reduceAdd, Nat.reduceSub, Nat.reduceMul, Nat.reduceEqDiff, Nat.reduceLeDiff, reduceIte, ite_ne, wrap_i64, boundN_int, r4]; rfl
              · rcases Nat.lt_or_ge j i with h | h
                · exact hj j h
                · have e : j = i := by omega
                  rw [e, hrow]; omega
      · have c2' : ¬ (i : Int) ≤ 100 := by omega
        simp (maxSteps := 2000000) (disch := first | omega | assumption) only [↓mCode, ↓mOps, mVal, mBase, vPtr, Int.reduceLT, Int.reduceAdd, Int.reduceSub, Int.reduceLE, Int.reduceToNat, Int.reduceNeg, ite_true, ite_false, Nat.reduceAdd, Nat.reduceSub, Nat.reduceMul, Nat.reduceEqDiff, Nat.reduceLeDiff, reduceIte, ite_ne, wrap_i64, boundN_int, e1_tys, e1_fns, fn4, Tryz.f4, resultsK_eq, ty3, ty22, ty31, r0, r3, r4, l_len, c1', c2']
        refine hexit _ _ _ ⟨?_, fun h => absurd h (by omega), rfl, rfl⟩
        simp (maxSteps := 2000000) (disch := first | omega | assumption) only [↓mCode, ↓mOps, mVal, mBase, vPtr, Int.reduceLT, Int.reduceAdd, Int.reduceSub, Int.reduceLE, Int.reduceToNat, Int.reduceNeg, ite_true, ite_false, Nat.reduceAdd, Nat.reduceSub, Nat.reduceMul, Nat.reduceEqDiff, Nat.reduceLeDiff, reduceIte, ite_ne, wrap_i64, boundN_int, r0]
    · have c1' : ¬ (i : Int) < (la.length : Int) := by omega
      simp (maxSteps := 2000000) (disch := first | omega | assumption) only [↓mCode, ↓mOps, mVal, mBase, vPtr, Int.reduceLT, Int.reduceAdd, Int.reduceSub, Int.reduceLE, Int.reduceToNat, Int.reduceNeg, ite_true, ite_false, Nat.reduceAdd, Nat.reduceSub, Nat.reduceMul, Nat.reduceEqDiff, Nat.reduceLeDiff, reduceIte, ite_ne, wrap_i64, boundN_int, e1_tys, e1_fns, fn4, Tryz.f4, resultsK_eq, ty3, ty22, ty31, r0, r3, r4, l_len, c1']
      refine hexit _ _ _ ⟨?_, fun _ j h => hj j (by omega), rfl, rfl⟩
      simp (maxSteps := 2000000) (disch := first | omega | assumption) only [↓mCode, ↓mOps, mVal, mBase, vPtr, Int.reduceLT, Int.reduceAdd, Int.reduceSub, Int.reduceLE, Int.reduceToNat, Int.reduceNeg, ite_true, ite_false, Nat.reduceAdd, Nat.reduceSub, Nat.reduceMul, Nat.reduceEqDiff, Nat.reduceLeDiff, reduceIte, ite_ne, wrap_i64, boundN_int, r0]
  · rintro regs h' n' ⟨r0, hj, rfl, rfl⟩
    simp (maxSteps := 2000000) (disch := first | omega | assumption) only [↓mCode, ↓mOps, mVal, mBase, vPtr, Int.reduceLT, Int.reduceAdd, Int.reduceSub, Int.reduceLE, Int.reduceToNat, Int.reduceNeg, ite_true, ite_false, Nat.reduceAdd, Nat.reduceSub, Nat.reduceMul, Nat.reduceEqDiff, Nat.reduceLeDiff, reduceIte, ite_ne, wrap_i64, boundN_int, e1_tys, e1_fns, fn4, Tryz.f4, resultsK_eq, ty3, ty22, ty31, r0, l_len]
    refine K _ _ _ ⟨⟨_, rfl, fun hb => ?_⟩, rfl, rfl⟩
    have : la.length ≤ 100 := by
      have := of_decide_eq_false hb; omega
    exact ⟨this, hj this⟩
end Go.Mir
