/- Walks: slices.rotateCmpFunc over rows. -/
import Derived.Test.YtnclpappnmoimaaGreatDoorAnsJ
import Derived.Test.YtnclpappnmoimaaGreatDoorSymPlain2
set_option linter.unusedSimpArgs false
set_option linter.unusedVariables false
namespace Go.Mir
open Go Go.Proofs Go.Srt
set_option maxRecDepth 4000
set_option maxHeartbeats 1000000

/-- a block of rows of the run's own making -/
def DatA (h : T O) (n0 n id L : Nat) (g : Nat → V) (d : Nat → List Tm) : Prop :=
  (∃ t, h.get id = some (.cells t L 1) ∧ ∀ j, j < L → t.get j = some (g j)) ∧ n0 ≤ id ∧ id < n ∧ ∀ j, j < L → RowIn h n (g j) (d j) ∧ vid (g j) ≠ some id
def Dat (h : T O) (n0 n : Nat) (v : V) (L : Nat) (d : Nat → List Tm) : Prop :=
  (v = .base (.slice none 0 0) ∧ L = 0) ∨ ∃ id g, v = .slice id 0 L false 0 L ∧ DatA h n0 n id L g d

theorem DatA.congr {h : T O} {n0 n id L : Nat} {g : Nat → V} {d d' : Nat → List Tm} (D : DatA h n0 n id L g d) (e : ∀ j, j < L → d' j = d j) : DatA h n0 n id L g d' :=
  ⟨D.1, D.2.1, D.2.2.1, fun j hj => by rw [e j hj]; exact D.2.2.2 j hj⟩

theorem Dat.congr {h : T O} {n0 n L : Nat} {v : V} {d d' : Nat → List Tm} (D : Dat h n0 n v L d) (e : ∀ j, j < L → d' j = d j) : Dat h n0 n v L d' := by
  rcases D with D | ⟨id, g, hv, D⟩
  · exact .inl D
  · exact .inr ⟨id, g, hv, D.congr e⟩

theorem Dat.of {h : T O} {n0 n : Nat} {v : V} {ls : List (List Tm)} (R : OutAt h n0 n v ls) : Dat h n0 n v ls.length (fun j => ls.getD j []) := by
  rcases R with ⟨rfl, rfl⟩ | ⟨id, t, rfl, h1, h2, h3, g, hg⟩
  · exact .inl ⟨rfl, rfl⟩
  · exact .inr ⟨id, g, rfl, ⟨t, h1, fun j hj => (hg j hj).1⟩, h2, h3, fun j hj => (hg j hj).2⟩

theorem Dat.out {h : T O} {n0 n : Nat} {v : V} {L : Nat} {d : Nat → List Tm} (D : Dat h n0 n v L d) : OutAt h n0 n v ((List.range L).map d) := by
  rcases D with ⟨rfl, rfl⟩ | ⟨id, g, rfl, ⟨t, h1, h4⟩, h2, h3, hg⟩
  · exact .inl ⟨rfl, rfl⟩
  · have hL : ((List.range L).map d).length = L := by simp
    refine .inr ⟨id, t, by rw [hL], by rw [hL]; exact h1, h2, h3, g, fun j hj => ?_⟩
    rw [hL] at hj
    refine ⟨h4 j hj, ?_, (hg j hj).2⟩
    rw [List.getD_eq_getElem?_getD, List.getElem?_map, List.getElem?_range hj]
    exact (hg j hj).1

theorem Dat.len {h : T O} {n0 n : Nat} {v : V} {L : Nat} {d : Nat → List Tm} (D : Dat h n0 n v L d) {h' : T O} {e : Nat} {k : V → Out} : lenIn h' (.slice e) v k = k (.int .i64 (L : Int)) := by
  rcases D with ⟨rfl, rfl⟩ | ⟨id, g, rfl, _⟩
  · exact lenIn_nil
  · exact lenIn_slice

theorem DatA.at {h : T O} {n0 n id L : Nat} {g : Nat → V} {d : Nat → List Tm} (D : DatA h n0 n id L g d) {j : Nat} (hj : j < L) {k : V → Out} : cellAt h id j k = k (g j) := by
  obtain ⟨⟨t, h1, h2⟩, _⟩ := D
  have := Cells.at (g := g) (off := 0) (len := L) (h := h) (id := id) ⟨_, t, L, 1, h1, .inl rfl, by omega, fun j hj => by rw [Nat.zero_add]; exact h2 j hj⟩ hj (a := j) (by omega) (k := k)
  exact this

/-- new blocks elsewhere -/
theorem DatA.ext {h h' : T O} {n0 n n' id L : Nat} {g : Nat → V} {d : Nat → List Tm} (D : DatA h n0 n id L g d) (G : Gro h n h' n') : DatA h' n0 n' id L g d := by
  obtain ⟨⟨t, h1, h2⟩, h3, h4, h5⟩ := D
  exact ⟨⟨t, (G.2 id h4).trans h1, h2⟩, h3, Nat.lt_of_lt_of_le h4 G.1, fun j hj => ⟨(h5 j hj).1.ext G, (h5 j hj).2⟩⟩

/-- two places changed -/
theorem DatA.swap {h H : T O} {n0 n id L i j : Nat} {g : Nat → V} {d : Nat → List Tm} (D : DatA h n0 n id L g d) (hi : i < L) (hj : j < L) {T' : T V}
    (h1 : H.get id = some (.cells T' L 1)) (h2 : ∀ k, k < L → T'.get k = some (swp g i j k)) (h3 : ∀ k, k ≠ id → H.get k = h.get k) : DatA H n0 n id L (swp g i j) (swp d i j) := by
  obtain ⟨_, h4, h5, h6⟩ := D
  refine ⟨⟨T', h1, h2⟩, h4, h5, fun k hk => ?_⟩
  have ext : ∀ {v : V} {l : List Tm}, RowIn h n v l ∧ vid v ≠ some id → RowIn H n v l ∧ vid v ≠ some id := fun R =>
    ⟨⟨R.1.1.keep fun a ha => h3 a (by rintro rfl; exact R.2 ha), R.1.2⟩, R.2⟩
  unfold swp
  split
  · exact ext (h6 j hj)
  · split
    · exact ext (h6 i hi)
    · exact ext (h6 k hk)
end Go.Mir
namespace Go.Mir
open Go Go.Proofs Go.Srt
set_option maxRecDepth 4000
set_option maxHeartbeats 4000000

noncomputable def ltR (x y : List Tm) : Bool := decide (cmpR x y < 0)
theorem ltR_t {x y : List Tm} (h : cmpR x y < 0) : ltR x y = true := decide_eq_true h
theorem ltR_f {x y : List Tm} (h : ¬ cmpR x y < 0) : ltR x y = false := decide_eq_false h

theorem _root_.Go.Srt.PermD.all' {α : Type} {a b L : Nat} {d d' : Nat → α} (h : PermD a b d d') {p : α → Prop} (hp : ∀ i, i < L → p (d i)) (hb : b ≤ L := by omega) : ∀ i, i < L → p (d' i) := fun i hi => by
  by_cases c : a ≤ i ∧ i < b
  · exact h.all (fun k _ hk => hp k (by omega)) i c.1 c.2
  · rw [h.out (by omega)]; exact hp i hi

theorem insertion_ok {h : T O} {n0 n id L a b : Nat} {g : Nat → V} {d : Nat → List Tm} (D : DatA h n0 n id L g d) (hO : Ord ltR) (h0 : n0 ≤ n) (hb : b ≤ L) (hL : L ≤ 1000) (ha : a ≤ 1000) (hs : ∀ j, j < L → (d j).length ≤ 1000000) :
    Fn env1 67 [.slice id 0 L false 0 L, .int .i64 (a : Int), .int .i64 (b : Int), .func 13 [] []] h n (fun _ h' n' => ∃ g' d', DatA h' n0 n' id L g' d' ∧ PermD a b d d' ∧ Sorted ltR a b d' ∧ n ≤ n' ∧ ∀ j, j < n0 → h'.get j = h.get j) := by
  refine Fn.mk fn67 rfl fz67 (by simp) fun Q cs K => ?_
  simp (maxSteps := 2000000) (disch := first | omega | assumption) only [↓mCode, ↓mOps, mVal, mBase, vPtr, Int.reduceLT, Int.reduceAdd, Int.reduceSub, Int.reduceLE, Int.reduceToNat, Int.reduceNeg, ite_true, ite_false, Nat.reduceAdd, Nat.reduceSub, Nat.reduceMul, Nat.reduceEqDiff, Nat.reduceLeDiff, reduceIte, ite_ne, wrap_i64, boundN_int, e1_tys, e1_fns, fn67, Tryz.f67, resultsK_eq, ty3, ty22, ty31]
  refine W_loop (fun m regs h' n' => ∃ (i : Nat) (g' : Nat → V) (d' : Nat → List Tm), m = b - i ∧ a + 1 ≤ i ∧ (i ≤ b ∨ i = a + 1) ∧ regs.get 0 = some (.slice id 0 L false 0 L) ∧ regs.get 1 = some (.int .i64 (a : Int)) ∧ regs.get 2 = some (.int .i64 (b : Int)) ∧
    regs.get 3 = some (.func 13 [] []) ∧ regs.get 8 = some (.int .i64 (i : Int)) ∧ DatA h' n0 n' id L g' d' ∧ PermD a b d d' ∧ Sorted ltR a i d' ∧ n ≤ n' ∧ ∀ j, j < n0 → h'.get j = h.get j)
    _ ⟨a + 1, g, d, rfl, by omega, .inr rfl, ?_, ?_, ?_, ?_, ?_, D, PermD.refl a b d, sorted_one (by omega), Nat.le_refl _, fun j hj => rfl⟩ ?_
  · simp (maxSteps := 2000000) (disch := first | omega | assumption) only [↓mCode, ↓mOps, mVal, mBase, vPtr, Int.reduceLT, Int.reduceAdd, Int.reduceSub, Int.reduceLE, Int.reduceToNat, Int.reduceNeg, ite_true, ite_false, Nat.reduceAdd, Nat.reduceSub, Nat.reduceMul, Nat.reduceEqDiff, Nat.reduceLeDiff, reduceIte, ite_ne, wrap_i64, boundN_int, e1_tys]
  · simp (maxSteps := 2000000) (disch := first | omega | assumption) only [↓mCode, ↓mOps, mVal, mBase, vPtr, Int.reduceLT, Int.reduceAdd, Int.reduceSub, Int.reduceLE, Int.reduceToNat, Int.reduceNeg, ite_true, ite_false, Nat.reduceAdd, Nat.reduceSub, Nat.reduceMul, Nat.reduceEqDiff, Nat.reduceLeDiff, reduceIte, ite_ne, wrap_i64, boundN_int, e1_tys]
  · simp (maxSteps := 2000000) (disch := first | omega | assumption) only [↓mCode, ↓mOps, mVal, mBase, vPtr, Int.reduceLT, Int.reduceAdd, Int.reduceSub, Int.reduceLE, Int.reduceToNat, Int.reduceNeg, ite_true, ite_false, Nat.reduceAdd, Nat.reduceSub, Nat.reduceMul, Nat.reduceEqDiff, Nat.reduceLeDiff, reduceIte, ite_ne, wrap_i64, boundN_int, e1_tys]
  · simp (maxSteps := 2000000) (disch := first | omega | assumption) only [↓mCode, ↓mOps, mVal, mBase, vPtr, Int.reduceLT, Int.reduceAdd, Int.reduceSub, Int.reduceLE, Int.reduceToNat, Int.reduceNeg, ite_true, ite_false, Nat.reduceAdd, Nat.reduceSub, Nat.reduceMul, Nat.reduceEqDiff, Nat.reduceLeDiff, reduceIte, ite_ne, wrap_i64, boundN_int, e1_tys]
  · simp (maxSteps := 2000000) (disch := first | omega | assumption) only [↓mCode, ↓mOps, mVal, mBase, vPtr, Int.reduceLT, Int.reduceAdd, Int.reduceSub, Int.reduceLE, Int.reduceToNat, Int.reduceNeg, ite_true, ite_false, Nat.reduceAdd, Nat.reduceSub, Nat.reduceMul, Nat.reduceEqDiff, Nat.reduceLeDiff, reduceIte, ite_ne, wrap_i64, boundN_int, e1_tys]; rfl
  rintro m regs h' n' ⟨i, g', d', rfl, hi, hi2, r0, r1, r2, r3, r8, D, hp, hso, hn, hk⟩ IH
  by_cases c1 : i < b
  · have c1' : (i : Int) < (b : Int) := by omega
    simp (maxSteps := 2000000) (disch := first | omega | assumption) only [↓mCode, ↓mOps, mVal, mBase, vPtr, Int.reduceLT, Int.reduceAdd, Int.reduceSub, Int.reduceLE, Int.reduceToNat, Int.reduceNeg, ite_true, ite_false, Nat.reduceAdd, Nat.reduceSub, Nat.reduceMul, Nat.reduceEqDiff, Nat.reduceLeDiff, reduceIte, ite_ne, wrap_i64, boundN_int, e1_tys, e1_fns, fn67, Tryz.f67, resultsK_eq, ty3, ty22, ty31, r0, r1, r2, r3, r8, c1']
    refine W_loopE (fun m regs h9 n9 => ∃ (j : Nat) (g' : Nat → V) (d' : Nat → List Tm), m = j ∧ a ≤ j ∧ j ≤ i ∧ regs.get 0 = some (.slice id 0 L false 0 L) ∧ regs.get 1 = some (.int .i64 (a : Int)) ∧ regs.get 2 = some (.int .i64 (b : Int)) ∧
      regs.get 3 = some (.func 13 [] []) ∧ regs.get 8 = some (.int .i64 (i : Int)) ∧ regs.get 9 = some (.int .i64 (j : Int)) ∧ DatA h9 n0 n9 id L g' d' ∧ PermD a b d d' ∧ InsI ltR a i j d' ∧ n ≤ n9 ∧ ∀ j, j < n0 → h9.get j = h.get j)
      (fun regs h9 n9 => ∃ (g' : Nat → V) (d' : Nat → List Tm), regs.get 0 = some (.slice id 0 L false 0 L) ∧ regs.get 1 = some (.int .i64 (a : Int)) ∧ regs.get 2 = some (.int .i64 (b : Int)) ∧
      regs.get 3 = some (.func 13 [] []) ∧ regs.get 8 = some (.int .i64 (i : Int)) ∧ DatA h9 n0 n9 id L g' d' ∧ PermD a b d d' ∧ Sorted ltR a (i + 1) d' ∧ n ≤ n9 ∧ ∀ j, j < n0 → h9.get j = h.get j)
      _ ⟨i, g', d', rfl, by omega, Nat.le_refl _, ?_, ?_, ?_, ?_, ?_, ?_, D, hp, ins_start hso, hn, hk⟩ ?_ ?_
    · simp (maxSteps := 2000000) (disch := first | omega | assumption) only [↓mCode, ↓mOps, mVal, mBase, vPtr, Int.reduceLT, Int.reduceAdd, Int.reduceSub, Int.reduceLE, Int.reduceToNat, Int.reduceNeg, ite_true, ite_false, Nat.reduceAdd, Nat.reduceSub, Nat.reduceMul, Nat.reduceEqDiff, Nat.reduceLeDiff, reduceIte, ite_ne, wrap_i64, boundN_int, r0]
    · simp (maxSteps := 2000000) (disch := first | omega | assumption) only [↓mCode, ↓mOps, mVal, mBase, vPtr, Int.reduceLT, Int.reduceAdd, Int.reduceSub, Int.reduceLE, Int.reduceToNat, Int.reduceNeg, ite_true, ite_false, Nat.reduceAdd, Nat.reduceSub, Nat.reduceMul, Nat.reduceEqDiff, Nat.reduceLeDiff, reduceIte, ite_ne, wrap_i64, boundN_int, r1]
    · simp (maxSteps := 2000000) (disch := first | omega | assumption) only [↓mCode, ↓mOps, mVal, mBase, vPtr, Int.reduceLT, Int.reduceAdd, Int.reduceSub, Int.reduceLE, Int.reduceToNat, Int.reduceNeg, ite_true, ite_false, Nat.reduceAdd, Nat.reduceSub, Nat.reduceMul, Nat.reduceEqDiff, Nat.reduceLeDiff, reduceIte, ite_ne, wrap_i64, boundN_int, r2]
    · simp (maxSteps := 2000000) (disch := first | omega | assumption) only [↓mCode, ↓mOps, mVal, mBase, vPtr, Int.reduceLT, Int.reduceAdd, Int.reduceSub, Int.reduceLE, Int.reduceToNat, Int.reduceNeg, ite_true, ite_false, Nat.reduceAdd, Nat.reduceSub, Nat.reduceMul, Nat.reduceEqDiff, Nat.reduceLeDiff, reduceIte, ite_ne, wrap_i64, boundN_int, r3]
    · simp (maxSteps := 2000000) (disch := first | omega | assumption) only [↓mCode, ↓mOps, mVal, mBase, vPtr, Int.reduceLT, Int.reduceAdd, Int.reduceSub, Int.reduceLE, Int.reduceToNat, Int.reduceNeg, ite_true, ite_false, Nat.reduceAdd, Nat.reduceSub, Nat.reduceMul, Nat.reduceEqDiff, Nat.reduceLeDiff, reduceIte, ite_ne, wrap_i64, boundN_int, r8]
    · simp (maxSteps := 2000000) (disch := first | omega | assumption) only [↓mCode, ↓mOps, mVal, mBase, vPtr, Int.reduceLT, Int.reduceAdd, Int.reduceSub, Int.reduceLE, Int.reduceToNat, Int.reduceNeg, ite_true, ite_false, Nat.reduceAdd, Nat.reduceSub, Nat.reduceMul, Nat.reduceEqDiff, Nat.reduceLeDiff, reduceIte, ite_ne, wrap_i64, boundN_int, r8]
    · rintro t2 hexit2 m regs h9 n9 ⟨j, g', d', e0, hj, hj2, r0, r1, r2, r3, r8, r9, D, hp, hin, hn, hk⟩ IH2
      simp (maxSteps := 2000000) (disch := first | omega | assumption) only [↓mCode, ↓mOps, mVal, mBase, vPtr, Int.reduceLT, Int.reduceAdd, Int.reduceSub, Int.reduceLE, Int.reduceToNat, Int.reduceNeg, ite_true, ite_false, Nat.reduceAdd, Nat.reduceSub, Nat.reduceMul, Nat.reduceEqDiff, Nat.reduceLeDiff, reduceIte, ite_ne, wrap_i64, boundN_int, e1_tys, e1_fns, fn67, Tryz.f67, resultsK_eq]
      by_cases c2 : j > a
      · have c2' : (j : Int) > (a : Int) := by omega
        have hA : ∀ {k : V → Out}, cellAt h9 id j k = k (g' j) := D.at (by omega)
        have e1 : ((j : Int) - 1).toNat = j - 1 := by omega
        have hB : ∀ {k : V → Out}, cellAt h9 id (j - 1) k = k (g' (j - 1)) := D.at (by omega)
        refine W_draw sr67_4 ss67_4 ?_ ?_
        · exact sk67_4
        simp (maxSteps := 2000000) (disch := first | omega | assumption) only [↓mCode, ↓mOps, mVal, mBase, vPtr, Int.reduceLT, Int.reduceAdd, Int.reduceSub, Int.reduceLE, Int.reduceToNat, Int.reduceNeg, ite_true, ite_false, Nat.reduceAdd, Nat.reduceSub, Nat.reduceMul, Nat.reduceEqDiff, Nat.reduceLeDiff, reduceIte, ite_ne, wrap_i64, boundN_int, e1_tys, e1_fns, fn67, Tryz.f67, resultsK_eq, ty3, ty22, ty31, r0, r1, r2, r3, r8, r9, c2', e1, hA, hB, Nat.mul_one]
        have sm : ∀ k, k < L → (d' k).length ≤ 1000000 := hp.all' (p := fun x => x.length ≤ 1000000) hs
        refine (compare_ok (D.2.2.2 j (by omega)).1 (D.2.2.2 (j - 1) (by omega)).1 (sm j (by omega)) (sm (j - 1) (by omega))).call rfl e1_subs ?_
        rintro _ h8 n8 ⟨rfl, G⟩
        have D := D.ext G
        have hn8 : n ≤ n8 := Nat.le_trans hn G.1
        have hk8 : ∀ j, j < n0 → h8.get j = h.get j := fun j hj => (G.2 j (by omega)).trans (hk j hj)
        by_cases c3 : lexL cmpT (d' j) (d' (j - 1)) < 0
        · simp (maxSteps := 2000000) (disch := first | omega | assumption) only [↓mCode, ↓mOps, mVal, mBase, vPtr, Int.reduceLT, Int.reduceAdd, Int.reduceSub, Int.reduceLE, Int.reduceToNat, Int.reduceNeg, ite_true, ite_false, Nat.reduceAdd, Nat.reduceSub, Nat.reduceMul, Nat.reduceEqDiff, Nat.reduceLeDiff, reduceIte, ite_ne, wrap_i64, boundN_int, e1_tys, e1_fns, fn67, Tryz.f67, resultsK_eq, ty3, ty22, ty31, r0, r1, r2, r3, r8, r9, c3]
          have hA : ∀ {k : V → Out}, cellAt h8 id j k = k (g' j) := D.at (by omega)
          have hB : ∀ {k : V → Out}, cellAt h8 id (j - 1) k = k (g' (j - 1)) := D.at (by omega)
          refine W_draw sr67_6 ss67_6 ?_ ?_
          · exact sk67_6
          have oA : oneV (g' j) = true := (D.2.2.2 j (by omega)).1.1.one
          have oB : oneV (g' (j - 1)) = true := (D.2.2.2 (j - 1) (by omega)).1.1.one
          have cA : cellsOf (g' j) = [g' j] := cellsOf_one oA
          have cB : cellsOf (g' (j - 1)) = [g' (j - 1)] := cellsOf_one oB
          obtain ⟨t9, g9, gt9⟩ := D.1
          simp (maxSteps := 2000000) (disch := first | omega | assumption) only [↓mCode, ↓mOps, mVal, mBase, vPtr, Int.reduceLT, Int.reduceAdd, Int.reduceSub, Int.reduceLE, Int.reduceToNat, Int.reduceNeg, ite_true, ite_false, Nat.reduceAdd, Nat.reduceSub, Nat.reduceMul, Nat.reduceEqDiff, Nat.reduceLeDiff, reduceIte, ite_ne, wrap_i64, boundN_int, e1_tys, e1_fns, fn67, Tryz.f67, resultsK_eq, ty3, ty22, ty31, r0, r1, r2, r3, r8, r9, e1, hA, hB, oA, oB, cA, cB, g9, Nat.mul_one]
          refine IH2 (j - 1) _ _ _ (by omega) ⟨j - 1, swp g' j (j - 1), swp d' j (j - 1), rfl, by omega, by omega, ?_, ?_, ?_, ?_, ?_, ?_,
            D.swap (by omega) (by omega) (T.get_put _ _ _ _ |>.trans (if_pos rfl)) (fun k hk => ?_) (fun k hk => by rw [T.get_put, if_neg hk, T.get_put, if_neg hk]),
            hp.trans (swp_perm d' (by omega) (by omega) (by omega) (by omega)), ins_step hO hin (by omega) hj2 (ltR_t c3), hn8, fun k hk => ?_⟩
          · simp (maxSteps := 2000000) (disch := first | omega | assumption) only [↓mCode, ↓mOps, mVal, mBase, vPtr, Int.reduceLT, Int.reduceAdd, Int.reduceSub, Int.reduceLE, Int.reduceToNat, Int.reduceNeg, ite_true, ite_false, Nat.reduceAdd, Nat.reduceSub, Nat.reduceMul, Nat.reduceEqDiff, Nat.reduceLeDiff, reduceIte, ite_ne, wrap_i64, boundN_int, r0]
          · simp (maxSteps := 2000000) (disch := first | omega | assumption) only [↓mCode, ↓mOps, mVal, mBase, vPtr, Int.reduceLT, Int.reduceAdd, Int.reduceSub, Int.reduceLE, Int.reduceToNat, Int.reduceNeg, ite_true, ite_false, Nat.reduceAdd, Nat.reduceSub, Nat.reduceMul, Nat.reduceEqDiff, Nat.reduceLeDiff, reduceIte, ite_ne, wrap_i64, boundN_int, r1]
          · simp (maxSteps := 2000000) (disch := first | omega | assumption) only [↓mCode, ↓mOps, mVal, mBase, vPtr, Int.reduceLT, Int.reduceAdd, Int.reduceSub, Int.reduceLE, Int.reduceToNat, Int.reduceNeg, ite_true, ite_false, Nat.reduceAdd, Nat.reduceSub, Nat.reduceMul, Nat.reduceEqDiff, Nat.reduceLeDiff, reduceIte, ite_ne, wrap_i64, boundN_int, r2]
          · simp (maxSteps := 2000000) (disch := first | omega | assumption) only [↓mCode, ↓mOps, mVal, mBase, vPtr, Int.reduceLT, Int.reduceAdd, Int.reduceSub, Int.reduceLE, Int.reduceToNat, Int.reduceNeg, ite_true, ite_false, Nat.reduceAdd, Nat.reduceSub, Nat.reduceMul, Nat.reduceEqDiff, Nat.reduceLeDiff, reduceIte, ite_ne, wrap_i64, boundN_int, r3]
          · simp (maxSteps := 2000000) (disch := first | omega | assumption) only [↓mCode, ↓mOps, mVal, mBase, vPtr, Int.reduceLT, Int.reduceAdd, Int.reduceSub, Int.reduceLE, Int.reduceToNat, Int.reduceNeg, ite_true, ite_false, Nat.reduceAdd, Nat.reduceSub, Nat.reduceMul, Nat.reduceEqDiff, Nat.reduceLeDiff, reduceIte, ite_ne, wrap_i64, boundN_int, r8]
          · have e7 : (((j - 1 : Nat)) : Int) = (j : Int) - 1 := by omega
            rw [e7]; simp (maxSteps := 2000000) (disch := first | omega | assumption) only [↓mCode, ↓mOps, mVal, mBase, vPtr, Int.reduceLT, Int.reduceAdd, Int.reduceSub, Int.reduceLE, Int.reduceToNat, Int.reduceNeg, ite_true, ite_false, Nat.reduceAdd, Nat.reduceSub, Nat.reduceMul, Nat.reduceEqDiff, Nat.reduceLeDiff, reduceIte, ite_ne, wrap_i64, boundN_int, r9]
          · unfold swp
            rw [T.get_put, T.get_put]
            by_cases k1 : k = j - 1
            · rw [if_pos k1, if_neg (by omega), if_pos k1]
            · by_cases k2 : k = j
              · rw [if_neg k1, if_pos k2, if_pos k2]
              · rw [if_neg k1, if_neg k2, if_neg k2, if_neg k1]; exact gt9 k hk
          · have := D.2.1
            rw [T.get_put, if_neg (by omega), T.get_put, if_neg (by omega)]; exact hk8 k hk
        · simp (maxSteps := 2000000) (disch := first | omega | assumption) only [↓mCode, ↓mOps, mVal, mBase, vPtr, Int.reduceLT, Int.reduceAdd, Int.reduceSub, Int.reduceLE, Int.reduceToNat, Int.reduceNeg, ite_true, ite_false, Nat.reduceAdd, Nat.reduceSub, Nat.reduceMul, Nat.reduceEqDiff, Nat.reduceLeDiff, reduceIte, ite_ne, wrap_i64, boundN_int, e1_tys, e1_fns, fn67, Tryz.f67, resultsK_eq, ty3, ty22, ty31, r0, r1, r2, r3, r8, r9, c3]
          refine hexit2 _ _ _ ⟨g', d', ?_, ?_, ?_, ?_, ?_, D, hp, ins_done hO hin hj hj2 (.inr (ltR_f c3)), hn8, hk8⟩
          · simp (maxSteps := 2000000) (disch := first | omega | assumption) only [↓mCode, ↓mOps, mVal, mBase, vPtr, Int.reduceLT, Int.reduceAdd, Int.reduceSub, Int.reduceLE, Int.reduceToNat, Int.reduceNeg, ite_true, ite_false, Nat.reduceAdd, Nat.reduceSub, Nat.reduceMul, Nat.reduceEqDiff, Nat.reduceLeDiff, reduceIte, ite_ne, wrap_i64, boundN_int, r0]
          · simp (maxSteps := 2000000) (disch := first | omega | assumption) only [↓mCode, ↓mOps, mVal, mBase, vPtr, Int.reduceLT, Int.reduceAdd, Int.reduceSub, Int.reduceLE, Int.reduceToNat, Int.reduceNeg, ite_true, ite_false, Nat.reduceAdd, Nat.reduceSub, Nat.reduceMul, Nat.reduceEqDiff, Nat.reduceLeDiff, reduceIte, ite_ne, wrap_i64, boundN_int, r1]
          · simp (maxSteps := 2000000) (disch := first | omega | assumption) only [↓mCode, ↓mOps, mVal, mBase, vPtr, Int.reduceLT, Int.reduceAdd, Int.reduceSub, Int.reduceLE, Int.reduceToNat, Int.reduceNeg, ite_true, ite_false, Nat.reduceAdd, Nat.reduceSub, Nat.reduceMul, Nat.reduceEqDiff, Nat.reduceLeDiff, reduceIte, ite_ne, wrap_i64, boundN_int, r2]
          · simp (maxSteps := 2000000) (disch := first | omega | assumption) only [↓mCode, ↓mOps, mVal, mBase, vPtr, Int.reduceLT, Int.reduceAdd, Int.reduceSub, Int.reduceLE, Int.reduceToNat, Int.reduceNeg, ite_true, ite_false, Nat.reduceAdd, Nat.reduceSub, Nat.reduceMul, Nat.reduceEqDiff, Nat.reduceLeDiff, reduceIte, ite_ne, wrap_i64, boundN_int, r3]
          · simp (maxSteps := 2000000) (disch := first | omega | assumption) only [↓mCode, ↓mOps, mVal, mBase, vPtr, Int.reduceLT, Int.reduceAdd, Int.reduceSub, Int.reduceLE, Int.reduceToNat, Int.reduceNeg, ite_true, ite_false, Nat.reduceAdd, Nat.reduceSub, Nat.reduceMul, Nat.reduceEqDiff, Nat.reduceLeDiff, reduceIte, ite_ne, wrap_i64, boundN_int, r8]
      · have c2' : ¬ (j : Int) > (a : Int) := by omega
        refine W_draw sr67_4 ss67_4 ?_ ?_
        · exact sk67_4
        simp (maxSteps := 2000000) (disch := first | omega | assumption) only [↓mCode, ↓mOps, mVal, mBase, vPtr, Int.reduceLT, Int.reduceAdd, Int.reduceSub, Int.reduceLE, Int.reduceToNat, Int.reduceNeg, ite_true, ite_false, Nat.reduceAdd, Nat.reduceSub, Nat.reduceMul, Nat.reduceEqDiff, Nat.reduceLeDiff, reduceIte, ite_ne, wrap_i64, boundN_int, e1_tys, e1_fns, fn67, Tryz.f67, resultsK_eq, ty3, ty22, ty31, r0, r1, r2, r3, r8, r9, c2', Nat.mul_one]
        refine hexit2 _ _ _ ⟨g', d', ?_, ?_, ?_, ?_, ?_, D, hp, ins_done hO hin hj hj2 (.inl (by omega)), hn, hk⟩
        · simp (maxSteps := 2000000) (disch := first | omega | assumption) only [↓mCode, ↓mOps, mVal, mBase, vPtr, Int.reduceLT, Int.reduceAdd, Int.reduceSub, Int.reduceLE, Int.reduceToNat, Int.reduceNeg, ite_true, ite_false, Nat.reduceAdd, Nat.reduceSub, Nat.reduceMul, Nat.reduceEqDiff, Nat.reduceLeDiff, reduceIte, ite_ne, wrap_i64, boundN_int, r0]
        · simp (maxSteps := 2000000) (disch := first | omega | assumption) only [↓mCode, ↓mOps, mVal, mBase, vPtr, Int.reduceLT, Int.reduceAdd, Int.reduceSub, Int.reduceLE, Int.reduceToNat, Int.reduceNeg, ite_true, ite_false, Nat.reduceAdd, Nat.reduceSub, Nat.reduceMul, Nat.reduceEqDiff, Nat.reduceLeDiff, reduceIte, ite_ne, wrap_i64, boundN_int, r1]
        · simp (maxSteps := 2000000) (disch := first | omega | assumption) only [↓mCode, ↓mOps, mVal, mBase, vPtr, Int.reduceLT, Int.reduceAdd, Int.reduceSub, Int.reduceLE, Int.reduceToNat, Int.reduceNeg, ite_true, ite_false, Nat.reduceAdd, Nat.reduceSub, Nat.reduceMul, Nat.reduceEqDiff, Nat.reduceLeDiff, reduceIte, ite_ne, wrap_i64, boundN_int, r2]
        · simp (maxSteps := 2000000) (disch := first | omega | assumption) only [↓mCode, ↓mOps, mVal, mBase, vPtr, Int.reduceLT, Int.reduceAdd, Int.reduceSub, Int.reduceLE, Int.reduceToNat, Int.reduceNeg, ite_true, ite_false, Nat.reduceAdd, Nat.reduceSub, Nat.reduceMul, Nat.reduceEqDiff, Nat.reduceLeDiff, reduceIte, ite_ne, wrap_i64, boundN_int, r3]
        · simp (maxSteps := 2000000) (disch := first | omega | assumption) only [↓mCode, ↓mOps, mVal, mBase, vPtr, Int.reduceLT, Int.reduceAdd, Int.reduceSub, Int.reduceLE, Int.reduceToNat, Int.reduceNeg, ite_true, ite_false, Nat.reduceAdd, Nat.reduceSub, Nat.reduceMul, Nat.reduceEqDiff, Nat.reduceLeDiff, reduceIte, ite_ne, wrap_i64, boundN_int, r8]
    · rintro regs h9 n9 ⟨g', d', r0, r1, r2, r3, r8, D, hp, hso, hn, hk⟩
      simp (maxSteps := 2000000) (disch := first | omega | assumption) only [↓mCode, ↓mOps, mVal, mBase, vPtr, Int.reduceLT, Int.reduceAdd, Int.reduceSub, Int.reduceLE, Int.reduceToNat, Int.reduceNeg, ite_true, ite_false, Nat.reduceAdd, Nat.reduceSub, Nat.reduceMul, Nat.reduceEqDiff, Nat.reduceLeDiff, reduceIte, ite_ne, wrap_i64, boundN_int, e1_tys, e1_fns, fn67, Tryz.f67, resultsK_eq, ty3, ty22, ty31, r0, r1, r2, r3, r8]
      refine IH (b - (i + 1)) _ _ _ (by omega) ⟨i + 1, g', d', rfl, by omega, by omega, ?_, ?_, ?_, ?_, ?_, D, hp, hso, hn, hk⟩
      · simp (maxSteps := 2000000) (disch := first | omega | assumption) only [↓mCode, ↓mOps, mVal, mBase, vPtr, Int.reduceLT, Int.reduceAdd, Int.reduceSub, Int.reduceLE, Int.reduceToNat, Int.reduceNeg, ite_true, ite_false, Nat.reduceAdd, Nat.reduceSub, Nat.reduceMul, Nat.reduceEqDiff, Nat.reduceLeDiff, reduceIte, ite_ne, wrap_i64, boundN_int, r0]
      · simp (maxSteps := 2000000) (disch := first | omega | assumption) only [↓mCode, ↓mOps, mVal, mBase, vPtr, Int.reduceLT, Int.reduceAdd, Int.reduceSub, Int.reduceLE, Int.reduceToNat, Int.reduceNeg, ite_true, ite_false, Nat.reduceAdd, Nat.reduceSub, Nat.reduceMul, Nat.reduceEqDiff, Nat.reduceLeDiff, reduceIte, ite_ne, wrap_i64, boundN_int, r1]
      · simp (maxSteps := 2000000) (disch := first | omega | assumption) only [↓mCode, ↓mOps, mVal, mBase, vPtr, Int.reduceLT, Int.reduceAdd, Int.reduceSub, Int.reduceLE, Int.reduceToNat, Int.reduceNeg, ite_true, ite_false, Nat.reduceAdd, Nat.reduceSub, Nat.reduceMul, Nat.reduceEqDiff, Nat.reduceLeDiff, reduceIte, ite_ne, wrap_i64, boundN_int, r2]
      · simp (maxSteps := 2000000) (disch := first | omega | assumption) only [↓mCode, ↓mOps, mVal, mBase, vPtr, Int.reduceLT, Int.reduceAdd, Int.reduceSub, Int.reduceLE, Int.reduceToNat, Int.reduceNeg, ite_true, ite_false, Nat.reduceAdd, Nat.reduceSub, Nat.reduceMul, Nat.reduceEqDiff, Nat.reduceLeDiff, reduceIte, ite_ne, wrap_i64, boundN_int, r3]
      · simp (maxSteps := 2000000) (disch := first | omega | assumption) only [↓mCode, ↓mOps, mVal, mBase, vPtr, Int.reduceLT, Int.reduceAdd, Int.reduceSub, Int.reduceLE, Int.reduceToNat, Int.reduceNeg, ite_true, ite_false, Nat.reduceAdd, Nat.reduceSub, Nat.reduceMul, Nat.reduceEqDiff, Nat.reduceLeDiff, reduceIte, ite_ne, wrap_i64, boundN_int, r8]; rfl
  · have c1' : ¬ (i : Int) < (b : Int) := by omega
    simp (maxSteps := 2000000) (disch := first | omega | assumption) only [↓mCode, ↓mOps, mVal, mBase, vPtr, Int.reduceLT, Int.reduceAdd, Int.reduceSub, Int.reduceLE, Int.reduceToNat, Int.reduceNeg, ite_true, ite_false, Nat.reduceAdd, Nat.reduceSub, Nat.reduceMul, Nat.reduceEqDiff, Nat.reduceLeDiff, reduceIte, ite_ne, wrap_i64, boundN_int, e1_tys, e1_fns, fn67, Tryz.f67, resultsK_eq, ty3, ty22, ty31, r0, r1, r2, r3, r8, c1']
    exact K _ _ _ ⟨g', d', D, hp, fun p q h1 h2 h3 => hso p q h1 h2 (by omega), hn, hk⟩
end Go.Mir
namespace Go.Mir
open Go Go.Proofs Go.Srt
set_option maxRecDepth 4000
set_option maxHeartbeats 4000000

theorem swapRange_ok {h : T O} {n0 n id L a b m : Nat} {g : Nat → V} {d : Nat → List Tm} {f : V} (D : DatA h n0 n id L g d) (hab : a + m ≤ b) (hb : b + m ≤ L) (hL : L ≤ 1000) (h0 : n0 ≤ n) :
    Fn env1 175 [.slice id 0 L false 0 L, .int .i64 (a : Int), .int .i64 (b : Int), .int .i64 (m : Int), f] h n (fun _ h' n' => ∃ g', DatA h' n0 n' id L g' (swrD a b m d) ∧ n ≤ n' ∧ ∀ j, j < n0 → h'.get j = h.get j) := by
  refine Fn.mk fn175 rfl fz175 (by simp) fun Q cs K => ?_
  simp (maxSteps := 2000000) (disch := first | omega | assumption) only [↓mCode, ↓mOps, mVal, mBase, vPtr, Int.reduceLT, Int.reduceAdd, Int.reduceSub, Int.reduceLE, Int.reduceToNat, Int.reduceNeg, ite_true, ite_false, Nat.reduceAdd, Nat.reduceSub, Nat.reduceMul, Nat.reduceEqDiff, Nat.reduceLeDiff, reduceIte, ite_ne, wrap_i64, boundN_int, e1_tys, e1_fns, fn175, Tryz.f175, resultsK_eq, ty3, ty22, ty31]
  refine W_loop (fun q regs h' n' => ∃ (i : Nat) (g' : Nat → V), q = m - i ∧ i ≤ m ∧ regs.get 0 = some (.slice id 0 L false 0 L) ∧ regs.get 1 = some (.int .i64 (a : Int)) ∧ regs.get 2 = some (.int .i64 (b : Int)) ∧
    regs.get 3 = some (.int .i64 (m : Int)) ∧ regs.get 10 = some (.int .i64 (i : Int)) ∧ DatA h' n0 n' id L g' (swrD a b i d) ∧ n ≤ n' ∧ ∀ j, j < n0 → h'.get j = h.get j)
    _ ⟨0, g, rfl, by omega, ?_, ?_, ?_, ?_, ?_, by rw [swrD_zero]; exact D, Nat.le_refl _, fun j hj => rfl⟩ ?_
  · simp (maxSteps := 2000000) (disch := first | omega | assumption) only [↓mCode, ↓mOps, mVal, mBase, vPtr, Int.reduceLT, Int.reduceAdd, Int.reduceSub, Int.reduceLE, Int.reduceToNat, Int.reduceNeg, ite_true, ite_false, Nat.reduceAdd, Nat.reduceSub, Nat.reduceMul, Nat.reduceEqDiff, Nat.reduceLeDiff, reduceIte, ite_ne, wrap_i64, boundN_int, e1_tys]
  · simp (maxSteps := 2000000) (disch := first | omega | assumption) only [↓mCode, ↓mOps, mVal, mBase, vPtr, Int.reduceLT, Int.reduceAdd, Int.reduceSub, Int.reduceLE, Int.reduceToNat, Int.reduceNeg, ite_true, ite_false, Nat.reduceAdd, Nat.reduceSub, Nat.reduceMul, Nat.reduceEqDiff, Nat.reduceLeDiff, reduceIte, ite_ne, wrap_i64, boundN_int, e1_tys]
  · simp (maxSteps := 2000000) (disch := first | omega | assumption) only [↓mCode, ↓mOps, mVal, mBase, vPtr, Int.reduceLT, Int.reduceAdd, Int.reduceSub, Int.reduceLE, Int.reduceToNat, Int.reduceNeg, ite_true, ite_false, Nat.reduceAdd, Nat.reduceSub, Nat.reduceMul, Nat.reduceEqDiff, Nat.reduceLeDiff, reduceIte, ite_ne, wrap_i64, boundN_int, e1_tys]
  · simp (maxSteps := 2000000) (disch := first | omega | assumption) only [↓mCode, ↓mOps, mVal, mBase, vPtr, Int.reduceLT, Int.reduceAdd, Int.reduceSub, Int.reduceLE, Int.reduceToNat, Int.reduceNeg, ite_true, ite_false, Nat.reduceAdd, Nat.reduceSub, Nat.reduceMul, Nat.reduceEqDiff, Nat.reduceLeDiff, reduceIte, ite_ne, wrap_i64, boundN_int, e1_tys]
  · simp (maxSteps := 2000000) (disch := first | omega | assumption) only [↓mCode, ↓mOps, mVal, mBase, vPtr, Int.reduceLT, Int.reduceAdd, Int.reduceSub, Int.reduceLE, Int.reduceToNat, Int.reduceNeg, ite_true, ite_false, Nat.reduceAdd, Nat.reduceSub, Nat.reduceMul, Nat.reduceEqDiff, Nat.reduceLeDiff, reduceIte, ite_ne, wrap_i64, boundN_int, e1_tys]
  rintro q regs h' n' ⟨i, g', rfl, hi, r0, r1, r2, r3, r10, D, hn, hk⟩ IH
  by_cases c1 : i < m
  · have c1' : (i : Int) < (m : Int) := by omega
    simp (maxSteps := 2000000) (disch := first | omega | assumption) only [↓mCode, ↓mOps, mVal, mBase, vPtr, Int.reduceLT, Int.reduceAdd, Int.reduceSub, Int.reduceLE, Int.reduceToNat, Int.reduceNeg, ite_true, ite_false, Nat.reduceAdd, Nat.reduceSub, Nat.reduceMul, Nat.reduceEqDiff, Nat.reduceLeDiff, reduceIte, ite_ne, wrap_i64, boundN_int, e1_tys, e1_fns, fn175, Tryz.f175, resultsK_eq, ty3, ty22, ty31, r0, r1, r2, r3, r10, c1']
    have e1 : ((a : Int) + (i : Int)).toNat = a + i := by omega
    have e2 : ((b : Int) + (i : Int)).toNat = b + i := by omega
    have hA : ∀ {k : V → Out}, cellAt h' id (a + i) k = k (g' (a + i)) := D.at (by omega)
    have hB : ∀ {k : V → Out}, cellAt h' id (b + i) k = k (g' (b + i)) := D.at (by omega)
    have oA : oneV (g' (a + i)) = true := (D.2.2.2 (a + i) (by omega)).1.1.one
    have oB : oneV (g' (b + i)) = true := (D.2.2.2 (b + i) (by omega)).1.1.one
    have cA : cellsOf (g' (a + i)) = [g' (a + i)] := cellsOf_one oA
    have cB : cellsOf (g' (b + i)) = [g' (b + i)] := cellsOf_one oB
    obtain ⟨t9, g9, gt9⟩ := D.1
    refine W_draw sr175_3 ss175_3 ?_ ?_
    · exact sk175_3
    simp (maxSteps := 2000000) (disch := first | omega | assumption) only [↓mCode, ↓mOps, mVal, mBase, vPtr, Int.reduceLT, Int.reduceAdd, Int.reduceSub, Int.reduceLE, Int.reduceToNat, Int.reduceNeg, ite_true, ite_false, Nat.reduceAdd, Nat.reduceSub, Nat.reduceMul, Nat.reduceEqDiff, Nat.reduceLeDiff, reduceIte, ite_ne, wrap_i64, boundN_int, e1_tys, e1_fns, fn175, Tryz.f175, resultsK_eq, ty3, ty22, ty31, r0, r1, r2, r3, r10, e1, e2, hA, hB, oA, oB, cA, cB, g9, Nat.mul_one]
    have hid := D.2.1
    refine IH (m - (i + 1)) _ _ _ (by omega) ⟨i + 1, swp g' (a + i) (b + i), rfl, by omega, ?_, ?_, ?_, ?_, ?_, ?_, hn, fun k hk' => ?_⟩
    · simp (maxSteps := 2000000) (disch := first | omega | assumption) only [↓mCode, ↓mOps, mVal, mBase, vPtr, Int.reduceLT, Int.reduceAdd, Int.reduceSub, Int.reduceLE, Int.reduceToNat, Int.reduceNeg, ite_true, ite_false, Nat.reduceAdd, Nat.reduceSub, Nat.reduceMul, Nat.reduceEqDiff, Nat.reduceLeDiff, reduceIte, ite_ne, wrap_i64, boundN_int, r0]
    · simp (maxSteps := 2000000) (disch := first | omega | assumption) only [↓mCode, ↓mOps, mVal, mBase, vPtr, Int.reduceLT, Int.reduceAdd, Int.reduceSub, Int.reduceLE, Int.reduceToNat, Int.reduceNeg, ite_true, ite_false, Nat.reduceAdd, Nat.reduceSub, Nat.reduceMul, Nat.reduceEqDiff, Nat.reduceLeDiff, reduceIte, ite_ne, wrap_i64, boundN_int, r1]
    · simp (maxSteps := 2000000) (disch := first | omega | assumption) only [↓mCode, ↓mOps, mVal, mBase, vPtr, Int.reduceLT, Int.reduceAdd, Int.reduceSub, Int.reduceLE, Int.reduceToNat, Int.reduceNeg, ite_true, ite_false, Nat.reduceAdd, Nat.reduceSub, Nat.reduceMul, Nat.reduceEqDiff, Nat.reduceLeDiff, reduceIte, ite_ne, wrap_i64, boundN_int, r2]
    · simp (maxSteps := 2000000) (disch := first | omega | assumption) only [↓mCode, ↓mOps, mVal, mBase, vPtr, Int.reduceLT, Int.reduceAdd, Int.reduceSub, Int.reduceLE, Int.reduceToNat, Int.reduceNeg, ite_true, ite_false, Nat.reduceAdd, Nat.reduceSub, Nat.reduceMul, Nat.reduceEqDiff, Nat.reduceLeDiff, reduceIte, ite_ne, wrap_i64, boundN_int, r3]
    · simp (maxSteps := 2000000) (disch := first | omega | assumption) only [↓mCode, ↓mOps, mVal, mBase, vPtr, Int.reduceLT, Int.reduceAdd, Int.reduceSub, Int.reduceLE, Int.reduceToNat, Int.reduceNeg, ite_true, ite_false, Nat.reduceAdd, Nat.reduceSub, Nat.reduceMul, Nat.reduceEqDiff, Nat.reduceLeDiff, reduceIte, ite_ne, wrap_i64, boundN_int, r10]; rfl
    · rw [swrD_succ d (by omega)]
      refine D.swap (by omega) (by omega) (T.get_put _ _ _ _ |>.trans (if_pos rfl)) (fun k hk => ?_) (fun k hk => by rw [T.get_put, if_neg hk, T.get_put, if_neg hk])
      unfold swp
      rw [T.get_put, T.get_put]
      by_cases k1 : k = b + i
      · rw [if_pos k1, if_neg (by omega), if_pos k1]
      · by_cases k2 : k = a + i
        · rw [if_neg k1, if_pos k2, if_pos k2]
        · rw [if_neg k1, if_neg k2, if_neg k2, if_neg k1]; exact gt9 k hk
    · rw [T.get_put, if_neg (by omega), T.get_put, if_neg (by omega)]; exact hk k hk'
  · have c1' : ¬ (i : Int) < (m : Int) := by omega
    have e : i = m := by omega
    simp (maxSteps := 2000000) (disch := first | omega | assumption) only [↓mCode, ↓mOps, mVal, mBase, vPtr, Int.reduceLT, Int.reduceAdd, Int.reduceSub, Int.reduceLE, Int.reduceToNat, Int.reduceNeg, ite_true, ite_false, Nat.reduceAdd, Nat.reduceSub, Nat.reduceMul, Nat.reduceEqDiff, Nat.reduceLeDiff, reduceIte, ite_ne, wrap_i64, boundN_int, e1_tys, e1_fns, fn175, Tryz.f175, resultsK_eq, ty3, ty22, ty31, r0, r1, r2, r3, r10, c1']
    exact K _ _ _ ⟨g', by rw [← e]; exact D, hn, hk⟩
end Go.Mir
namespace Go.Mir
open Go Go.Proofs Go.Srt
set_option maxRecDepth 4000
set_option maxHeartbeats 4000000

theorem rotate_ok {h : T O} {n0 n id L a m b : Nat} {g : Nat → V} {d : Nat → List Tm} {f : V} (D : DatA h n0 n id L g d) (h1 : a < m) (h2 : m < b) (hb : b ≤ L) (hL : L ≤ 1000) (h0 : n0 ≤ n) :
    Fn env1 121 [.slice id 0 L false 0 L, .int .i64 (a : Int), .int .i64 (m : Int), .int .i64 (b : Int), f] h n (fun _ h' n' => ∃ g', DatA h' n0 n' id L g' (rotD a m b d) ∧ n ≤ n' ∧ ∀ j, j < n0 → h'.get j = h.get j) := by
  refine Fn.mk fn121 rfl fz121 (by simp) fun Q cs K => ?_
  have e1 : (m : Int) - (a : Int) = ((m - a : Nat) : Int) := by omega
  have e2 : (b : Int) - (m : Int) = ((b - m : Nat) : Int) := by omega
  simp (maxSteps := 2000000) (disch := first | omega | assumption) only [↓mCode, ↓mOps, mVal, mBase, vPtr, Int.reduceLT, Int.reduceAdd, Int.reduceSub, Int.reduceLE, Int.reduceToNat, Int.reduceNeg, ite_true, ite_false, Nat.reduceAdd, Nat.reduceSub, Nat.reduceMul, Nat.reduceEqDiff, Nat.reduceLeDiff, reduceIte, ite_ne, wrap_i64, boundN_int, e1_tys, e1_fns, fn121, Tryz.f121, resultsK_eq, ty3, ty22, ty31, e1, e2]
  refine W_loopE (fun q regs h' n' => ∃ (i j : Nat) (g' : Nat → V) (d' : Nat → List Tm), q = i + j ∧ 0 < i ∧ 0 < j ∧ i ≤ m ∧ m + j ≤ L ∧ regs.get 0 = some (.slice id 0 L false 0 L) ∧ regs.get 2 = some (.int .i64 (m : Int)) ∧ regs.get 4 = some f ∧
    regs.get 10 = some (.int .i64 (i : Int)) ∧ regs.get 11 = some (.int .i64 (j : Int)) ∧ DatA h' n0 n' id L g' d' ∧ rotD (m - i) m (m + j) d' = rotD a m b d ∧ n ≤ n' ∧ ∀ j, j < n0 → h'.get j = h.get j)
    (fun regs h' n' => ∃ (i : Nat) (g' : Nat → V) (d' : Nat → List Tm), 0 < i ∧ i ≤ m ∧ m + i ≤ L ∧ regs.get 0 = some (.slice id 0 L false 0 L) ∧ regs.get 2 = some (.int .i64 (m : Int)) ∧ regs.get 4 = some f ∧
    regs.get 10 = some (.int .i64 (i : Int)) ∧ DatA h' n0 n' id L g' d' ∧ rotD (m - i) m (m + i) d' = rotD a m b d ∧ n ≤ n' ∧ ∀ j, j < n0 → h'.get j = h.get j)
    _ ⟨m - a, b - m, g, d, rfl, by omega, by omega, by omega, by omega, ?_, ?_, ?_, ?_, ?_, D, by rw [show m - (m - a) = a by omega, show m + (b - m) = b by omega], Nat.le_refl _, fun j hj => rfl⟩ ?_ ?_
  · simp (maxSteps := 2000000) (disch := first | omega | assumption) only [↓mCode, ↓mOps, mVal, mBase, vPtr, Int.reduceLT, Int.reduceAdd, Int.reduceSub, Int.reduceLE, Int.reduceToNat, Int.reduceNeg, ite_true, ite_false, Nat.reduceAdd, Nat.reduceSub, Nat.reduceMul, Nat.reduceEqDiff, Nat.reduceLeDiff, reduceIte, ite_ne, wrap_i64, boundN_int, e1_tys]
  · simp (maxSteps := 2000000) (disch := first | omega | assumption) only [↓mCode, ↓mOps, mVal, mBase, vPtr, Int.reduceLT, Int.reduceAdd, Int.reduceSub, Int.reduceLE, Int.reduceToNat, Int.reduceNeg, ite_true, ite_false, Nat.reduceAdd, Nat.reduceSub, Nat.reduceMul, Nat.reduceEqDiff, Nat.reduceLeDiff, reduceIte, ite_ne, wrap_i64, boundN_int, e1_tys]
  · simp (maxSteps := 2000000) (disch := first | omega | assumption) only [↓mCode, ↓mOps, mVal, mBase, vPtr, Int.reduceLT, Int.reduceAdd, Int.reduceSub, Int.reduceLE, Int.reduceToNat, Int.reduceNeg, ite_true, ite_false, Nat.reduceAdd, Nat.reduceSub, Nat.reduceMul, Nat.reduceEqDiff, Nat.reduceLeDiff, reduceIte, ite_ne, wrap_i64, boundN_int, e1_tys]
  · simp (maxSteps := 2000000) (disch := first | omega | assumption) only [↓mCode, ↓mOps, mVal, mBase, vPtr, Int.reduceLT, Int.reduceAdd, Int.reduceSub, Int.reduceLE, Int.reduceToNat, Int.reduceNeg, ite_true, ite_false, Nat.reduceAdd, Nat.reduceSub, Nat.reduceMul, Nat.reduceEqDiff, Nat.reduceLeDiff, reduceIte, ite_ne, wrap_i64, boundN_int, e1_tys]
  · simp (maxSteps := 2000000) (disch := first | omega | assumption) only [↓mCode, ↓mOps, mVal, mBase, vPtr, Int.reduceLT, Int.reduceAdd, Int.reduceSub, Int.reduceLE, Int.reduceToNat, Int.reduceNeg, ite_true, ite_false, Nat.reduceAdd, Nat.reduceSub, Nat.reduceMul, Nat.reduceEqDiff, Nat.reduceLeDiff, reduceIte, ite_ne, wrap_i64, boundN_int, e1_tys]
  · rintro t hexit q regs h' n' ⟨i, j, g', d', e0, hi, hj, him, hjl, r0, r2, r4, r10, r11, D, hr, hn, hk⟩ IH
    have e3 : (m : Int) - (i : Int) = ((m - i : Nat) : Int) := by omega
    by_cases c1 : i = j
    · subst c1
      have c1' : ¬ ((i : Int) ≠ (i : Int)) := by simp
      simp (maxSteps := 2000000) (disch := first | omega | assumption) only [↓mCode, ↓mOps, mVal, mBase, vPtr, Int.reduceLT, Int.reduceAdd, Int.reduceSub, Int.reduceLE, Int.reduceToNat, Int.reduceNeg, ite_true, ite_false, Nat.reduceAdd, Nat.reduceSub, Nat.reduceMul, Nat.reduceEqDiff, Nat.reduceLeDiff, reduceIte, ite_ne, wrap_i64, boundN_int, e1_tys, e1_fns, fn121, Tryz.f121, resultsK_eq, ty3, ty22, ty31, r0, r2, r4, r10, r11, c1']
      exact hexit _ _ _ ⟨i, g', d', hi, him, by omega, by simp (maxSteps := 2000000) (disch := first | omega | assumption) only [↓mCode, ↓mOps, mVal, mBase, vPtr, Int.reduceLT, Int.reduceAdd, Int.reduceSub, Int.reduceLE, Int.reduceToNat, Int.reduceNeg, ite_true, ite_false, Nat.reduceAdd, Nat.reduceSub, Nat.reduceMul, Nat.reduceEqDiff, Nat.reduceLeDiff, reduceIte, ite_ne, wrap_i64, boundN_int, r0], by simp (maxSteps := 2000000) (disch := first | omega | assumption) only [↓mCode, ↓mOps, mVal, mBase, vPtr, Int.reduceLT, Int.reduceAdd, Int.reduceSub, Int.reduceLE, Int.reduceToNat, Int.reduceNeg, ite_true, ite_false, Nat.reduceAdd, Nat.reduceSub, Nat.reduceMul, Nat.reduceEqDiff, Nat.reduceLeDiff, reduceIte, ite_ne, wrap_i64, boundN_int, r2], by simp (maxSteps := 2000000) (disch := first | omega | assumption) only [↓mCode, ↓mOps, mVal, mBase, vPtr, Int.reduceLT, Int.reduceAdd, Int.reduceSub, Int.reduceLE, Int.reduceToNat, Int.reduceNeg, ite_true, ite_false, Nat.reduceAdd, Nat.reduceSub, Nat.reduceMul, Nat.reduceEqDiff, Nat.reduceLeDiff, reduceIte, ite_ne, wrap_i64, boundN_int, r4], by simp (maxSteps := 2000000) (disch := first | omega | assumption) only [↓mCode, ↓mOps, mVal, mBase, vPtr, Int.reduceLT, Int.reduceAdd, Int.reduceSub, Int.reduceLE, Int.reduceToNat, Int.reduceNeg, ite_true, ite_false, Nat.reduceAdd, Nat.reduceSub, Nat.reduceMul, Nat.reduceEqDiff, Nat.reduceLeDiff, reduceIte, ite_ne, wrap_i64, boundN_int, r10], D, hr, hn, hk⟩
    · have c1' : ((i : Int) ≠ (j : Int)) = True := eq_true (by omega)
      by_cases c2 : i > j
      · have c2' : (i : Int) > (j : Int) := by omega
        have e4 : (i : Int) - (j : Int) = ((i - j : Nat) : Int) := by omega
        simp (maxSteps := 2000000) (disch := first | omega | assumption) only [↓mCode, ↓mOps, mVal, mBase, vPtr, Int.reduceLT, Int.reduceAdd, Int.reduceSub, Int.reduceLE, Int.reduceToNat, Int.reduceNeg, ite_true, ite_false, Nat.reduceAdd, Nat.reduceSub, Nat.reduceMul, Nat.reduceEqDiff, Nat.reduceLeDiff, reduceIte, ite_ne, wrap_i64, boundN_int, e1_tys, e1_fns, fn121, Tryz.f121, resultsK_eq, ty3, ty22, ty31, r0, r2, r4, r10, r11, c1', c2', e3]
        refine (swapRange_ok (f := f) D (a := m - i) (b := m) (m := j) (by omega) (by omega) hL (by omega)).call rfl e1_subs ?_
        rintro v h8 n8 ⟨g8, D8, hn8, hk8⟩
        simp (maxSteps := 2000000) (disch := first | omega | assumption) only [↓mCode, ↓mOps, mVal, mBase, vPtr, Int.reduceLT, Int.reduceAdd, Int.reduceSub, Int.reduceLE, Int.reduceToNat, Int.reduceNeg, ite_true, ite_false, Nat.reduceAdd, Nat.reduceSub, Nat.reduceMul, Nat.reduceEqDiff, Nat.reduceLeDiff, reduceIte, ite_ne, wrap_i64, boundN_int, e1_tys, e1_fns, fn121, Tryz.f121, resultsK_eq, ty3, ty22, ty31, r0, r2, r4, r10, r11, e4]
        exact IH (i - j + j) _ _ _ (by omega) ⟨i - j, j, g8, _, rfl, by omega, hj, by omega, hjl, by simp (maxSteps := 2000000) (disch := first | omega | assumption) only [↓mCode, ↓mOps, mVal, mBase, vPtr, Int.reduceLT, Int.reduceAdd, Int.reduceSub, Int.reduceLE, Int.reduceToNat, Int.reduceNeg, ite_true, ite_false, Nat.reduceAdd, Nat.reduceSub, Nat.reduceMul, Nat.reduceEqDiff, Nat.reduceLeDiff, reduceIte, ite_ne, wrap_i64, boundN_int, r0], by simp (maxSteps := 2000000) (disch := first | omega | assumption) only [↓mCode, ↓mOps, mVal, mBase, vPtr, Int.reduceLT, Int.reduceAdd, Int.reduceSub, Int.reduceLE, Int.reduceToNat, Int.reduceNeg, ite_true, ite_false, Nat.reduceAdd, Nat.reduceSub, Nat.reduceMul, Nat.reduceEqDiff, Nat.reduceLeDiff, reduceIte, ite_ne, wrap_i64, boundN_int, r2], by simp (maxSteps := 2000000) (disch := first | omega | assumption) only [↓mCode, ↓mOps, mVal, mBase, vPtr, Int.reduceLT, Int.reduceAdd, Int.reduceSub, Int.reduceLE, Int.reduceToNat, Int.reduceNeg, ite_true, ite_false, Nat.reduceAdd, Nat.reduceSub, Nat.reduceMul, Nat.reduceEqDiff, Nat.reduceLeDiff, reduceIte, ite_ne, wrap_i64, boundN_int, r4], by simp (maxSteps := 2000000) (disch := first | omega | assumption) only [↓mCode, ↓mOps, mVal, mBase, vPtr, Int.reduceLT, Int.reduceAdd, Int.reduceSub, Int.reduceLE, Int.reduceToNat, Int.reduceNeg, ite_true, ite_false, Nat.reduceAdd, Nat.reduceSub, Nat.reduceMul, Nat.reduceEqDiff, Nat.reduceLeDiff, reduceIte, ite_ne, wrap_i64, boundN_int, r10], by simp (maxSteps := 2000000) (disch := first | omega | assumption) only [↓mCode, ↓mOps, mVal, mBase, vPtr, Int.reduceLT, Int.reduceAdd, Int.reduceSub, Int.reduceLE, Int.reduceToNat, Int.reduceNeg, ite_true, ite_false, Nat.reduceAdd, Nat.reduceSub, Nat.reduceMul, Nat.reduceEqDiff, Nat.reduceLeDiff, reduceIte, ite_ne, wrap_i64, boundN_int, r11], D8,
          by rw [rot_gt d' him c2]; exact hr, by omega, fun k hk' => (hk8 k hk').trans (hk k hk')⟩
      · have c2' : ¬ (i : Int) > (j : Int) := by omega
        have e4 : (j : Int) - (i : Int) = ((j - i : Nat) : Int) := by omega
        have e5 : (m : Int) + (j : Int) - (i : Int) = ((m + j - i : Nat) : Int) := by omega
        simp (maxSteps := 2000000) (disch := first | omega | assumption) only [↓mCode, ↓mOps, mVal, mBase, vPtr, Int.reduceLT, Int.reduceAdd, Int.reduceSub, Int.reduceLE, Int.reduceToNat, Int.reduceNeg, ite_true, ite_false, Nat.reduceAdd, Nat.reduceSub, Nat.reduceMul, Nat.reduceEqDiff, Nat.reduceLeDiff, reduceIte, ite_ne, wrap_i64, boundN_int, e1_tys, e1_fns, fn121, Tryz.f121, resultsK_eq, ty3, ty22, ty31, r0, r2, r4, r10, r11, c1', c2', e3, e5]
        refine (swapRange_ok (f := f) D (a := m - i) (b := m + j - i) (m := i) (by omega) (by omega) hL (by omega)).call rfl e1_subs ?_
        rintro v h8 n8 ⟨g8, D8, hn8, hk8⟩
        simp (maxSteps := 2000000) (disch := first | omega | assumption) only [↓mCode, ↓mOps, mVal, mBase, vPtr, Int.reduceLT, Int.reduceAdd, Int.reduceSub, Int.reduceLE, Int.reduceToNat, Int.reduceNeg, ite_true, ite_false, Nat.reduceAdd, Nat.reduceSub, Nat.reduceMul, Nat.reduceEqDiff, Nat.reduceLeDiff, reduceIte, ite_ne, wrap_i64, boundN_int, e1_tys, e1_fns, fn121, Tryz.f121, resultsK_eq, ty3, ty22, ty31, r0, r2, r4, r10, r11, e4]
        exact IH (i + (j - i)) _ _ _ (by omega) ⟨i, j - i, g8, _, rfl, hi, by omega, him, by omega, by simp (maxSteps := 2000000) (disch := first | omega | assumption) only [↓mCode, ↓mOps, mVal, mBase, vPtr, Int.reduceLT, Int.reduceAdd, Int.reduceSub, Int.reduceLE, Int.reduceToNat, Int.reduceNeg, ite_true, ite_false, Nat.reduceAdd, Nat.reduceSub, Nat.reduceMul, Nat.reduceEqDiff, Nat.reduceLeDiff, reduceIte, ite_ne, wrap_i64, boundN_int, r0], by simp (maxSteps := 2000000) (disch := first | omega | assumption) only [↓mCode, ↓mOps, mVal, mBase, vPtr, Int.reduceLT, Int.reduceAdd, Int.reduceSub, Int.reduceLE, Int.reduceToNat, Int.reduceNeg, ite_true, ite_false, Nat.reduceAdd, Nat.reduceSub, Nat.reduceMul, Nat.reduceEqDiff, Nat.reduceLeDiff, reduceIte, ite_ne, wrap_i64, boundN_int, r2], by simp (maxSteps := 2000000) (disch := first | omega | assumption) only [↓mCode, ↓mOps, mVal, mBase, vPtr, Int.reduceLT, Int.reduceAdd, Int.reduceSub, Int.reduceLE, Int.reduceToNat, Int.reduceNeg, ite_true, ite_false, Nat.reduceAdd, Nat.reduceSub, Nat.reduceMul, Nat.reduceEqDiff, Nat.reduceLeDiff, reduceIte, ite_ne, wrap_i64, boundN_int, r4], by simp (maxSteps := 2000000) (disch := first | omega | assumption) only [↓mCode, ↓mOps, mVal, mBase, vPtr, Int.reduceLT, Int.reduceAdd, Int.reduceSub, Int.reduceLE, Int.reduceToNat, Int.reduceNeg, ite_true, ite_false, Nat.reduceAdd, Nat.reduceSub, Nat.reduceMul, Nat.reduceEqDiff, Nat.reduceLeDiff, reduceIte, ite_ne, wrap_i64, boundN_int, r10], by simp (maxSteps := 2000000) (disch := first | omega | assumption) only [↓mCode, ↓mOps, mVal, mBase, vPtr, Int.reduceLT, Int.reduceAdd, Int.reduceSub, Int.reduceLE, Int.reduceToNat, Int.reduceNeg, ite_true, ite_false, Nat.reduceAdd, Nat.reduceSub, Nat.reduceMul, Nat.reduceEqDiff, Nat.reduceLeDiff, reduceIte, ite_ne, wrap_i64, boundN_int, r11], D8,
          by rw [rot_lt d' him (by omega)]; exact hr, by omega, fun k hk' => (hk8 k hk').trans (hk k hk')⟩
  · rintro regs h' n' ⟨i, g', d', hi, him, hil, r0, r2, r4, r10, D, hr, hn, hk⟩
    have e3 : (m : Int) - (i : Int) = ((m - i : Nat) : Int) := by omega
    simp (maxSteps := 2000000) (disch := first | omega | assumption) only [↓mCode, ↓mOps, mVal, mBase, vPtr, Int.reduceLT, Int.reduceAdd, Int.reduceSub, Int.reduceLE, Int.reduceToNat, Int.reduceNeg, ite_true, ite_false, Nat.reduceAdd, Nat.reduceSub, Nat.reduceMul, Nat.reduceEqDiff, Nat.reduceLeDiff, reduceIte, ite_ne, wrap_i64, boundN_int, e1_tys, e1_fns, fn121, Tryz.f121, resultsK_eq, ty3, ty22, ty31, r0, r2, r4, r10, e3]
    refine (swapRange_ok (f := f) D (a := m - i) (b := m) (m := i) (by omega) (by omega) hL (by omega)).call rfl e1_subs ?_
    rintro v h8 n8 ⟨g8, D8, hn8, hk8⟩
    simp (maxSteps := 2000000) (disch := first | omega | assumption) only [↓mCode, ↓mOps, mVal, mBase, vPtr, Int.reduceLT, Int.reduceAdd, Int.reduceSub, Int.reduceLE, Int.reduceToNat, Int.reduceNeg, ite_true, ite_false, Nat.reduceAdd, Nat.reduceSub, Nat.reduceMul, Nat.reduceEqDiff, Nat.reduceLeDiff, reduceIte, ite_ne, wrap_i64, boundN_int, e1_tys, e1_fns, fn121, Tryz.f121, resultsK_eq, ty3, ty22, ty31, r0, r2, r4, r10]
    exact K _ _ _ ⟨g8, by rw [← hr, ← rot_eq d' him]; exact D8, by omega, fun k hk' => (hk8 k hk').trans (hk k hk')⟩
end Go.Mir
