/- Walks: are the rows too many (the reference's Much)? -/
import Derived.Test.YtnclpappnmoimaaGreatDoorAnsG
set_option linter.unusedSimpArgs false
set_option linter.unusedVariables false
namespace Go.Mir
open Go Go.Proofs Go.Srt
set_option maxRecDepth 4000
set_option maxHeartbeats 1000000

/-- a list of rows of the run's own making -/
def OutAt (h : T O) (n0 n : Nat) (v : V) (ls : List (List Tm)) : Prop :=
  (v = .base (.slice none 0 0) ∧ ls = []) ∨ ∃ id t, v = .slice id 0 ls.length false 0 ls.length ∧ h.get id = some (.cells t ls.length 1) ∧ n0 ≤ id ∧ id < n ∧
    ∃ g : Nat → V, ∀ j, j < ls.length → t.get j = some (g j) ∧ RowIn h n (g j) (ls.getD j []) ∧ vid (g j) ≠ some id

theorem OutAt.rows {h : T O} {n0 n : Nat} {v : V} {ls : List (List Tm)} (R : OutAt h n0 n v ls) : Rows h v ls := by
  rcases R with ⟨rfl, rfl⟩ | ⟨id, t, rfl, h1, h2, h3, g, hg⟩
  · exact ⟨fun _ => undefV, .nil none, fun i hi => absurd hi (by simp)⟩
  · exact ⟨g, .slice _ _ _ _ _ _ (Nat.le_refl _) ⟨_, t, _, 1, h1, .inl rfl, by omega, fun j hj => by rw [Nat.zero_add]; exact (hg j (by omega)).1⟩, fun i hi => (hg i hi).2.1.1⟩

theorem src22 : srcTy tys 22 (.slice 0 0 0 true 0 0) = true := by kernel_rfl
theorem src22_s {id off len kk lo : Nat} {ex : Bool} : srcTy tys 22 (.slice id off len ex kk lo) = true := src22

/-- how many at the front are less -/
def pos (c : List Tm → List Tm → Int) (x : List Tm) : List (List Tm) → Nat
  | [] => 0
  | y :: l => if c y x < 0 then pos c x l + 1 else 0

theorem pos_le (c : List Tm → List Tm → Int) (x : List Tm) : ∀ l, pos c x l ≤ l.length
  | [] => Nat.le_refl _
  | y :: l => by
    simp only [pos]; split
    · have := pos_le c x l; simp only [List.length_cons]; omega
    · exact Nat.zero_le _

theorem pos_lt (c : List Tm → List Tm → Int) (x : List Tm) : ∀ (l : List (List Tm)) (i : Nat), i < pos c x l → c (l.getD i []) x < 0
  | [], i, h => absurd h (by simp [pos])
  | y :: l, i, h => by
    simp only [pos] at h
    split at h
    · rename_i hc
      cases i with
      | zero => exact hc
      | succ i => exact pos_lt c x l i (by omega)
    · omega

theorem pos_at (c : List Tm → List Tm → Int) (x : List Tm) : ∀ (l : List (List Tm)), pos c x l < l.length → ¬ c (l.getD (pos c x l) []) x < 0
  | [], h => absurd h (by simp [pos])
  | y :: l, h => by
    simp only [pos] at h ⊢
    split
    · rename_i hc
      rw [if_pos hc] at h
      exact pos_at c x l (by simpa using h)
    · rename_i hc; exact hc

theorem ins_pos (c : List Tm → List Tm → Int) (x : List Tm) : ∀ l, ins c x l = l.take (pos c x l) ++ x :: l.drop (pos c x l)
  | [] => rfl
  | y :: l => by
    simp only [ins, pos]; split
    · rw [ins_pos c x l]; simp
    · rfl

theorem insOnce_pos (c : List Tm → List Tm → Int) (x : List Tm) : ∀ l, insOnce c x l = if pos c x l < l.length ∧ c (l.getD (pos c x l) []) x = 0 then l else l.take (pos c x l) ++ x :: l.drop (pos c x l)
  | [] => by simp [insOnce, pos]
  | y :: l => by
    simp only [insOnce, pos]; split
    · rw [insOnce_pos c x l]
      simp only [List.length_cons, Nat.add_lt_add_iff_right, List.getD_cons_succ, List.take_succ_cons, List.drop_succ_cons]
      split <;> simp
    · split
      · rename_i h1 h2; rw [if_pos ⟨by simp, by simpa using h2⟩]
      · rename_i h1 h2; rw [if_neg (by rintro ⟨_, h⟩; exact h2 (by simpa using h))]; rfl

noncomputable abbrev cmpR : List Tm → List Tm → Int := lexL cmpT

theorem getD_ins {l : List (List Tm)} {x : List Tm} {p : Nat} (hp : p ≤ l.length) (j : Nat) :
    (l.take p ++ x :: l.drop p).getD j [] = if j < p then l.getD j [] else if j = p then x else l.getD (j - 1) [] := by
  rw [List.getD_eq_getElem?_getD, List.getElem?_append, List.length_take, Nat.min_eq_left hp]
  split
  · rw [List.getElem?_take, if_pos (by assumption), List.getD_eq_getElem?_getD]
  · split
    · rename_i h; rw [h, Nat.sub_self]; rfl
    · have e : j - p = (j - p - 1) + 1 := by omega
      rw [e, List.getElem?_cons_succ, List.getElem?_drop, List.getD_eq_getElem?_getD]
      congr 2; omega

theorem put_fin {h H : T O} {n0 n N id idn p : Nat} {T' : T V} {g : Nat → V} {ls : List (List Tm)} {x : List Tm} {vr : V} (hp : p ≤ ls.length)
    (hg : ∀ j, j < ls.length → RowIn h n (g j) (ls.getD j []) ∧ vid (g j) ≠ some id) (hr : RowIn h n vr x) (hv : vid vr ≠ some id)
    (hH : H.get idn = some (.cells T' (ls.length + 1) 1)) (h1 : n0 ≤ idn) (h2 : idn < N) (h3 : n ≤ idn) (hnN : n ≤ N) (hk : ∀ j, j < n → j ≠ id → H.get j = h.get j)
    (hT : ∀ j, j < ls.length + 1 → T'.get j = some (if j < p then g j else if j = p then vr else g (j - 1))) :
    OutAt H n0 N (.slice idn 0 (ls.length + 1) false 0 (ls.length + 1)) (ls.take p ++ x :: ls.drop p) := by
  have hL : (ls.take p ++ x :: ls.drop p).length = ls.length + 1 := by simp; omega
  have ext : ∀ {v : V} {l : List Tm}, RowIn h n v l → vid v ≠ some id → RowIn H N v l := fun R hne =>
    ⟨R.1.keep fun i hi => hk i (R.2 i hi) (by rintro rfl; exact hne hi), fun i hi => Nat.lt_of_lt_of_le (R.2 i hi) hnN⟩
  have far : ∀ {v : V} {l : List Tm}, RowIn h n v l → vid v ≠ some idn := fun R e => by have := R.2 _ e; omega
  refine .inr ⟨idn, T', by rw [hL], by rw [hL]; exact hH, h1, h2, fun j => if j < p then g j else if j = p then vr else g (j - 1), fun j hj => ⟨hT j (by omega), ?_, ?_⟩⟩
  · rw [getD_ins hp]
    dsimp only
    by_cases c1 : j < p
    · rw [if_pos c1, if_pos c1]; exact ext (hg j (by omega)).1 (hg j (by omega)).2
    · rw [if_neg c1, if_neg c1]
      by_cases c2 : j = p
      · rw [if_pos c2, if_pos c2]; exact ext hr hv
      · rw [if_neg c2, if_neg c2]; exact ext (hg (j - 1) (by omega)).1 (hg (j - 1) (by omega)).2
  · dsimp only
    by_cases c1 : j < p
    · rw [if_pos c1]; exact far (hg j (by omega)).1
    · rw [if_neg c1]
      by_cases c2 : j = p
      · rw [if_pos c2]; exact far hr
      · rw [if_neg c2]; exact far (hg (j - 1) (by omega)).1

set_option maxHeartbeats 4000000 in
/-- a row put into its place, by the reference's put -/
theorem put_ok {h : T O} {n0 n : Nat} {vl vr : V} {ls : List (List Tm)} {x : List Tm} {once : Bool} (hl : OutAt h n0 n vl ls) (hr : RowIn h n vr x) (hv : ∀ id, vid vr = some id → id < n0) (hn : ls.length ≤ 1000) (hx : x.length ≤ 1000000) (hs : Small ls) (h0 : n0 ≤ n) :
    Fn env1 24 [vl, vr, .bool once] h n (fun v h' n' => OutAt h' n0 n' v (if once then insOnce cmpR x ls else ins cmpR x ls) ∧ Gro h n0 h' n') := by
  refine Fn.mk fn24 rfl fz24 (by simp) fun Q cs K => ?_
  have hrows := hl.rows
  have l_len : ∀ {e : Nat} {k : V → Out}, lenIn h (.slice e) vl k = k (.int .i64 (ls.length : Int)) := hrows.len
  simp (maxSteps := 2000000) (disch := first | omega | assumption) only [↓mCode, ↓mOps, mVal, mBase, vPtr, Int.reduceLT, Int.reduceAdd, Int.reduceSub, Int.reduceLE, Int.reduceToNat, Int.reduceNeg, ite_true, ite_false, Nat.reduceAdd, Nat.reduceSub, Nat.reduceMul, Nat.reduceEqDiff, Nat.reduceLeDiff, reduceIte, ite_ne, wrap_i64, boundN_int, e1_tys, e1_fns, fn24, Tryz.f24, resultsK_eq, ty3, ty22, ty31]
  have hpl := pos_le cmpR x ls
  have hx0 := (lexL_LC cmpT_LC)
  refine W_loopE (fun m regs h' n' => ∃ i : Nat, m = ls.length - i ∧ i ≤ pos cmpR x ls ∧ regs.get 0 = some vl ∧ regs.get 1 = some vr ∧ regs.get 2 = some (.bool once) ∧ regs.get 7 = some (.int .i64 (i : Int)) ∧
    h' = h ∧ n' = n) (fun regs h' n' => regs.get 0 = some vl ∧ regs.get 1 = some vr ∧ regs.get 2 = some (.bool once) ∧ regs.get 7 = some (.int .i64 (pos cmpR x ls : Int)) ∧ h' = h ∧ n' = n) _ ⟨0, rfl, by omega, ?_, ?_, ?_, ?_, rfl, rfl⟩ ?_ ?_
  · simp (maxSteps := 2000000) (disch := first | omega | assumption) only [↓mCode, ↓mOps, mVal, mBase, vPtr, Int.reduceLT, Int.reduceAdd, Int.reduceSub, Int.reduceLE, Int.reduceToNat, Int.reduceNeg, ite_true, ite_false, Nat.reduceAdd, Nat.reduceSub, Nat.reduceMul, Nat.reduceEqDiff, Nat.reduceLeDiff, reduceIte, ite_ne, wrap_i64, boundN_int, e1_tys]
  · simp (maxSteps := 2000000) (disch := first | omega | assumption) only [↓mCode, ↓mOps, mVal, mBase, vPtr, Int.reduceLT, Int.reduceAdd, Int.reduceSub, Int.reduceLE, Int.reduceToNat, Int.reduceNeg, ite_true, ite_false, Nat.reduceAdd, Nat.reduceSub, Nat.reduceMul, Nat.reduceEqDiff, Nat.reduceLeDiff, reduceIte, ite_ne, wrap_i64, boundN_int, e1_tys]
  · simp (maxSteps := 2000000) (disch := first | omega | assumption) only [↓mCode, ↓mOps, mVal, mBase, vPtr, Int.reduceLT, Int.reduceAdd, Int.reduceSub, Int.reduceLE, Int.reduceToNat, Int.reduceNeg, ite_true, ite_false, Nat.reduceAdd, Nat.reduceSub, Nat.reduceMul, Nat.reduceEqDiff, Nat.reduceLeDiff, reduceIte, ite_ne, wrap_i64, boundN_int, e1_tys]
  · simp (maxSteps := 2000000) (disch := first | omega | assumption) only [↓mCode, ↓mOps, mVal, mBase, vPtr, Int.reduceLT, Int.reduceAdd, Int.reduceSub, Int.reduceLE, Int.reduceToNat, Int.reduceNeg, ite_true, ite_false, Nat.reduceAdd, Nat.reduceSub, Nat.reduceMul, Nat.reduceEqDiff, Nat.reduceLeDiff, reduceIte, ite_ne, wrap_i64, boundN_int, e1_tys]
  · rintro t hexit m regs h' n' ⟨i, rfl, hi, r0, r1, r2, r7, rfl, rfl⟩ IH
    by_cases c1 : i < ls.length
    · have c1' : (i : Int) < (ls.length : Int) := by omega
      obtain ⟨ida, ofa, exa, ka, loa, ra, hvl, hloa, hca, hra⟩ := hrows.get c1
      simp (maxSteps := 2000000) (disch := first | omega | assumption) only [↓mCode, ↓mOps, mVal, mBase, vPtr, Int.reduceLT, Int.reduceAdd, Int.reduceSub, Int.reduceLE, Int.reduceToNat, Int.reduceNeg, ite_true, ite_false, Nat.reduceAdd, Nat.reduceSub, Nat.reduceMul, Nat.reduceEqDiff, Nat.reduceLeDiff, reduceIte, ite_ne, wrap_i64, boundN_int, e1_tys, e1_fns, fn24, Tryz.f24, resultsK_eq, ty3, ty31, ty22, r0, r1, r2, r7, l_len, c1', hvl, hca, Nat.mul_one]
      refine (cmpRows_ok hra hr.1 (hs i c1) hx).call rfl e1_subs ?_
      rintro _ _ _ ⟨rfl, rfl, rfl⟩
      simp (maxSteps := 2000000) (disch := first | omega | assumption) only [↓mCode, ↓mOps, mVal, mBase, vPtr, Int.reduceLT, Int.reduceAdd, Int.reduceSub, Int.reduceLE, Int.reduceToNat, Int.reduceNeg, ite_true, ite_false, Nat.reduceAdd, Nat.reduceSub, Nat.reduceMul, Nat.reduceEqDiff, Nat.reduceLeDiff, reduceIte, ite_ne, wrap_i64, boundN_int, e1_tys, e1_fns, fn24, Tryz.f24, resultsK_eq, ty3, ty31, ty22, r0, r1, r2, r7]
      refine ⟨fun h1 => ?_, fun h1 => ?_⟩
      · have hp : i < pos cmpR x ls := by
          rcases Nat.lt_or_ge i (pos cmpR x ls) with h | h
          · exact h
          · have e : i = pos cmpR x ls := by omega
            exact absurd h1 (by rw [e]; exact pos_at cmpR x ls (by omega))
        refine IH (ls.length - (i + 1)) _ _ _ (by omega) ⟨i + 1, rfl, by omega, ?_, ?_, ?_, ?_, rfl, rfl⟩
        · simp (maxSteps := 2000000) (disch := first | omega | assumption) only [↓mCode, ↓mOps, mVal, mBase, vPtr, Int.reduceLT, Int.reduceAdd, Int.reduceSub, Int.reduceLE, Int.reduceToNat, Int.reduceNeg, ite_true, ite_false, Nat.reduceAdd, Nat.reduceSub, Nat.reduceMul, Nat.reduceEqDiff, Nat.reduceLeDiff, reduceIte, ite_ne, wrap_i64, boundN_int, r0]
        · simp (maxSteps := 2000000) (disch := first | omega | assumption) only [↓mCode, ↓mOps, mVal, mBase, vPtr, Int.reduceLT, Int.reduceAdd, Int.reduceSub, Int.reduceLE, Int.reduceToNat, Int.reduceNeg, ite_true, ite_false, Nat.reduceAdd, Nat.reduceSub, Nat.reduceMul, Nat.reduceEqDiff, Nat.reduceLeDiff, reduceIte, ite_ne, wrap_i64, boundN_int, r1]
        · simp (maxSteps := 2000000) (disch := first | omega | assumption) only [↓mCode, ↓mOps, mVal, mBase, vPtr, Int.reduceLT, Int.reduceAdd, Int.reduceSub, Int.reduceLE, Int.reduceToNat, Int.reduceNeg, ite_true, ite_false, Nat.reduceAdd, Nat.reduceSub, Nat.reduceMul, Nat.reduceEqDiff, Nat.reduceLeDiff, reduceIte, ite_ne, wrap_i64, boundN_int, r2]
        · simp (maxSteps := 2000000) (disch := first | omega | assumption) only [↓mCode, ↓mOps, mVal, mBase, vPtr, Int.reduceLT, Int.reduceAdd, Int.reduceSub, Int.reduceLE, Int.reduceToNat, Int.reduceNeg, ite_true, ite_false, Nat.reduceAdd, Nat.reduceSub, Nat.reduceMul, Nat.reduceEqDiff, Nat.reduceLeDiff, reduceIte, ite_ne, wrap_i64, boundN_int, r0]; rfl
      · have hp : i = pos cmpR x ls := by
          rcases Nat.lt_or_ge i (pos cmpR x ls) with h | h
          · exact absurd (pos_lt cmpR x ls i h) h1
          · omega
        refine hexit _ _ _ ⟨?_, ?_, ?_, ?_, rfl, rfl⟩
        · simp (maxSteps := 2000000) (disch := first | omega | assumption) only [↓mCode, ↓mOps, mVal, mBase, vPtr, Int.reduceLT, Int.reduceAdd, Int.reduceSub, Int.reduceLE, Int.reduceToNat, Int.reduceNeg, ite_true, ite_false, Nat.reduceAdd, Nat.reduceSub, Nat.reduceMul, Nat.reduceEqDiff, Nat.reduceLeDiff, reduceIte, ite_ne, wrap_i64, boundN_int, r0]
        · simp (maxSteps := 2000000) (disch := first | omega | assumption) only [↓mCode, ↓mOps, mVal, mBase, vPtr, Int.reduceLT, Int.reduceAdd, Int.reduceSub, Int.reduceLE, Int.reduceToNat, Int.reduceNeg, ite_true, ite_false, Nat.reduceAdd, Nat.reduceSub, Nat.reduceMul, Nat.reduceEqDiff, Nat.reduceLeDiff, reduceIte, ite_ne, wrap_i64, boundN_int, r1]
        · simp (maxSteps := 2000000) (disch := first | omega | assumption) only [↓mCode, ↓mOps, mVal, mBase, vPtr, Int.reduceLT, Int.reduceAdd, Int.reduceSub, Int.reduceLE, Int.reduceToNat, Int.reduceNeg, ite_true, ite_false, Nat.reduceAdd, Nat.reduceSub, Nat.reduceMul, Nat.reduceEqDiff, Nat.reduceLeDiff, reduceIte, ite_ne, wrap_i64, boundN_int, r2]
        · simp (maxSteps := 2000000) (disch := first | omega | assumption) only [↓mCode, ↓mOps, mVal, mBase, vPtr, Int.reduceLT, Int.reduceAdd, Int.reduceSub, Int.reduceLE, Int.reduceToNat, Int.reduceNeg, ite_true, ite_false, Nat.reduceAdd, Nat.reduceSub, Nat.reduceMul, Nat.reduceEqDiff, Nat.reduceLeDiff, reduceIte, ite_ne, wrap_i64, boundN_int, r7]; rw [← hp]
    · have c1' : ¬ (i : Int) < (ls.length : Int) := by omega
      have hp : i = pos cmpR x ls := by omega
      simp (maxSteps := 2000000) (disch := first | omega | assumption) only [↓mCode, ↓mOps, mVal, mBase, vPtr, Int.reduceLT, Int.reduceAdd, Int.reduceSub, Int.reduceLE, Int.reduceToNat, Int.reduceNeg, ite_true, ite_false, Nat.reduceAdd, Nat.reduceSub, Nat.reduceMul, Nat.reduceEqDiff, Nat.reduceLeDiff, reduceIte, ite_ne, wrap_i64, boundN_int, e1_tys, e1_fns, fn24, Tryz.f24, resultsK_eq, ty3, ty31, ty22, r0, r1, r2, r7, l_len, c1']
      refine hexit _ _ _ ⟨?_, ?_, ?_, ?_, rfl, rfl⟩
      · simp (maxSteps := 2000000) (disch := first | omega | assumption) only [↓mCode, ↓mOps, mVal, mBase, vPtr, Int.reduceLT, Int.reduceAdd, Int.reduceSub, Int.reduceLE, Int.reduceToNat, Int.reduceNeg, ite_true, ite_false, Nat.reduceAdd, Nat.reduceSub, Nat.reduceMul, Nat.reduceEqDiff, Nat.reduceLeDiff, reduceIte, ite_ne, wrap_i64, boundN_int, r0]
      · simp (maxSteps := 2000000) (disch := first | omega | assumption) only [↓mCode, ↓mOps, mVal, mBase, vPtr, Int.reduceLT, Int.reduceAdd, Int.reduceSub, Int.reduceLE, Int.reduceToNat, Int.reduceNeg, ite_true, ite_false, Nat.reduceAdd, Nat.reduceSub, Nat.reduceMul, Nat.reduceEqDiff, Nat.reduceLeDiff, reduceIte, ite_ne, wrap_i64, boundN_int, r1]
      · simp (maxSteps := 2000000) (disch := first | omega | assumption) only [↓mCode, ↓mOps, mVal, mBase, vPtr, Int.reduceLT, Int.reduceAdd, Int.reduceSub, Int.reduceLE, Int.reduceToNat, Int.reduceNeg, ite_true, ite_false, Nat.reduceAdd, Nat.reduceSub, Nat.reduceMul, Nat.reduceEqDiff, Nat.reduceLeDiff, reduceIte, ite_ne, wrap_i64, boundN_int, r2]
      · simp (maxSteps := 2000000) (disch := first | omega | assumption) only [↓mCode, ↓mOps, mVal, mBase, vPtr, Int.reduceLT, Int.reduceAdd, Int.reduceSub, Int.reduceLE, Int.reduceToNat, Int.reduceNeg, ite_true, ite_false, Nat.reduceAdd, Nat.reduceSub, Nat.reduceMul, Nat.reduceEqDiff, Nat.reduceLeDiff, reduceIte, ite_ne, wrap_i64, boundN_int, r7]; rw [← hp]
  rintro regs h' n' ⟨r0, r1, r2, r7, rfl, rfl⟩
  generalize hp : pos cmpR x ls = p at *
  have one_r : oneV vr = true := hr.1.one
  have cell_r : cellsOf vr = [vr] := cellsOf_one one_r
  have hnv : ∀ id, vid vr = some id → id < n' := hr.2
  rcases hl with ⟨rfl, rfl⟩ | ⟨id, t, rfl, g1, g2, g3, g, hg⟩
  · have ep : p = 0 := by have : p ≤ 0 := hpl; omega
    subst ep
    cases once with
    | true =>
      simp (maxSteps := 2000000) (disch := first | omega | assumption) only [↓mCode, ↓mOps, mVal, mBase, vPtr, Int.reduceLT, Int.reduceAdd, Int.reduceSub, Int.reduceLE, Int.reduceToNat, Int.reduceNeg, ite_true, ite_false, Nat.reduceAdd, Nat.reduceSub, Nat.reduceMul, Nat.reduceEqDiff, Nat.reduceLeDiff, reduceIte, ite_ne, wrap_i64, boundN_int, e1_tys, e1_fns, fn24, Tryz.f24, resultsK_eq, ty3, ty31, ty22, r0, r1, r2, r7, l_len, src22_s, need_true]
      refine W_draw sr24_7 ss24_7 ?_ ?_
      · exact sk24_7
      simp (maxSteps := 2000000) (disch := first | omega | assumption) only [↓mCode, ↓mOps, mVal, mBase, vPtr, Int.reduceLT, Int.reduceAdd, Int.reduceSub, Int.reduceLE, Int.reduceToNat, Int.reduceNeg, ite_true, ite_false, Nat.reduceAdd, Nat.reduceSub, Nat.reduceMul, Nat.reduceEqDiff, Nat.reduceLeDiff, reduceIte, ite_ne, wrap_i64, boundN_int, e1_tys, e1_fns, fn24, Tryz.f24, resultsK_eq, ty3, ty31, ty22, r0, r1, r2, r7, l_len, src22_s, need_true, one_r, cell_r]
      refine K _ _ _ ⟨.inr ⟨n' + 1, _, rfl, T.get_put _ _ _ _ |>.trans (if_pos rfl), ?_, by omega, fun _ => vr, fun j hj => ⟨?_, ?_, ?_⟩⟩, ?_⟩
      · omega
      · have e : j = 0 := by simp [insOnce, ins] at hj; omega
        subst e; rw [T.get_put, if_pos rfl]
      · have e : j = 0 := by simp [insOnce, ins] at hj; omega
        subst e
        exact hr.ext (((Gro.refl h' n').put _).put _ |>.set (by omega) _)
      · intro e; have := hnv _ e; omega
      · have := ((Gro.refl h' n').put (.cells (ofT [V.base (Value.slice none 0 0)]) 1 1)).put (.cells (ofT [V.base (Value.slice none 0 0)]) 1 1)
        exact ⟨by have := this.1; omega, fun j hj => (this.set (j := n' + 1) (by omega) _).2 j (by omega)⟩
    | false =>
      simp (maxSteps := 2000000) (disch := first | omega | assumption) only [↓mCode, ↓mOps, mVal, mBase, vPtr, Int.reduceLT, Int.reduceAdd, Int.reduceSub, Int.reduceLE, Int.reduceToNat, Int.reduceNeg, ite_true, ite_false, Nat.reduceAdd, Nat.reduceSub, Nat.reduceMul, Nat.reduceEqDiff, Nat.reduceLeDiff, reduceIte, ite_ne, wrap_i64, boundN_int, e1_tys, e1_fns, fn24, Tryz.f24, resultsK_eq, ty3, ty31, ty22, r0, r1, r2, r7, l_len, src22_s, need_true]
      refine W_draw sr24_7 ss24_7 ?_ ?_
      · exact sk24_7
      simp (maxSteps := 2000000) (disch := first | omega | assumption) only [↓mCode, ↓mOps, mVal, mBase, vPtr, Int.reduceLT, Int.reduceAdd, Int.reduceSub, Int.reduceLE, Int.reduceToNat, Int.reduceNeg, ite_true, ite_false, Nat.reduceAdd, Nat.reduceSub, Nat.reduceMul, Nat.reduceEqDiff, Nat.reduceLeDiff, reduceIte, ite_ne, wrap_i64, boundN_int, e1_tys, e1_fns, fn24, Tryz.f24, resultsK_eq, ty3, ty31, ty22, r0, r1, r2, r7, l_len, src22_s, need_true, one_r, cell_r]
      refine K _ _ _ ⟨.inr ⟨n' + 1, _, rfl, T.get_put _ _ _ _ |>.trans (if_pos rfl), ?_, by omega, fun _ => vr, fun j hj => ⟨?_, ?_, ?_⟩⟩, ?_⟩
      · omega
      · have e : j = 0 := by simp [insOnce, ins] at hj; omega
        subst e; rw [T.get_put, if_pos rfl]
      · have e : j = 0 := by simp [insOnce, ins] at hj; omega
        subst e
        exact hr.ext (((Gro.refl h' n').put _).put _ |>.set (by omega) _)
      · intro e; have := hnv _ e; omega
      · have := ((Gro.refl h' n').put (.cells (ofT [V.base (Value.slice none 0 0)]) 1 1)).put (.cells (ofT [V.base (Value.slice none 0 0)]) 1 1)
        exact ⟨by have := this.1; omega, fun j hj => (this.set (j := n' + 1) (by omega) _).2 j (by omega)⟩
  · have hC : ∀ {kk : List V → Out}, cellsAt h' id 0 (ls.length * 1) kk = kk ((List.range (ls.length * 1)).map g) := Cells.all ⟨_, t, _, 1, g1, .inl rfl, by omega, fun j hj => by rw [Nat.zero_add]; exact (hg j (by omega)).1⟩ rfl rfl
    simp only [Nat.mul_one] at hC
    have hA : allOne ((List.range ls.length).map g ++ [V.base (.slice none 0 0)]) = true := allOne_of fun v hv => by
      rcases List.mem_append.1 hv with hv | hv
      · obtain ⟨j, hj, rfl⟩ := List.mem_map.1 hv
        exact (hg j (List.mem_range.1 hj)).2.1.1.one
      · rw [List.mem_singleton.1 hv]; rfl
    have c2 : ¬ ls.length + 1 ≤ ls.length := by omega
    cases once with
    | true =>
      by_cases c7 : p < ls.length
      · have c7' : (p : Int) < (ls.length : Int) := by omega
        obtain ⟨ida, ofa, exa, ka, loa, ra, hvl, hloa, hca, hra⟩ := hrows.get c7
        cases hvl
        simp only [Nat.zero_add, Nat.mul_one] at hca
        simp (maxSteps := 2000000) (disch := first | omega | assumption) only [↓mCode, ↓mOps, mVal, mBase, vPtr, Int.reduceLT, Int.reduceAdd, Int.reduceSub, Int.reduceLE, Int.reduceToNat, Int.reduceNeg, ite_true, ite_false, Nat.reduceAdd, Nat.reduceSub, Nat.reduceMul, Nat.reduceEqDiff, Nat.reduceLeDiff, reduceIte, ite_ne, wrap_i64, boundN_int, e1_tys, e1_fns, fn24, Tryz.f24, resultsK_eq, ty3, ty22, ty31, r0, r1, r2, r7, l_len, c7', hca, Nat.mul_one]
        refine (cmpRows_ok hra hr.1 (hs p c7) hx).call rfl e1_subs ?_
        rintro _ h' n' ⟨rfl, rfl, rfl⟩
        by_cases c8 : lexL cmpT (ls.getD p []) x = 0
        · simp (maxSteps := 2000000) (disch := first | omega | assumption) only [↓mCode, ↓mOps, mVal, mBase, vPtr, Int.reduceLT, Int.reduceAdd, Int.reduceSub, Int.reduceLE, Int.reduceToNat, Int.reduceNeg, ite_true, ite_false, Nat.reduceAdd, Nat.reduceSub, Nat.reduceMul, Nat.reduceEqDiff, Nat.reduceLeDiff, reduceIte, ite_ne, wrap_i64, boundN_int, e1_tys, e1_fns, fn24, Tryz.f24, resultsK_eq, ty3, ty31, ty22, r0, r1, r2, r7, l_len, src22_s, need_true, app1_eq, app2_eq, growK_eq, hC, hA, c2, g1, Nat.mul_one, c8]
          refine K _ _ _ ⟨?_, Gro.up ⟨h0, fun _ _ => rfl⟩ (Nat.le_refl _)⟩
          rw [if_pos rfl, insOnce_pos, hp, if_pos ⟨c7, c8⟩]
          exact .inr ⟨id, t, rfl, g1, g2, g3, g, hg⟩
        · have hres : (if true = true then insOnce cmpR x ls else ins cmpR x ls) = ls.take p ++ x :: ls.drop p := by
            rw [if_pos rfl, insOnce_pos, hp, if_neg (fun e => c8 e.2)]
          simp (maxSteps := 2000000) (disch := first | omega | assumption) only [↓mCode, ↓mOps, mVal, mBase, vPtr, Int.reduceLT, Int.reduceAdd, Int.reduceSub, Int.reduceLE, Int.reduceToNat, Int.reduceNeg, ite_true, ite_false, Nat.reduceAdd, Nat.reduceSub, Nat.reduceMul, Nat.reduceEqDiff, Nat.reduceLeDiff, reduceIte, ite_ne, wrap_i64, boundN_int, e1_tys, e1_fns, fn24, Tryz.f24, resultsK_eq, ty3, ty31, ty22, r0, r1, r2, r7, l_len, src22_s, need_true, app1_eq, app2_eq, growK_eq, hC, hA, c2, g1, Nat.mul_one, c8]
          refine W_draw sr24_7 ss24_7 ?_ ?_
          · exact sk24_7
          have e1 : ((p : Int) + 1).toNat = p + 1 := by omega
          have e3 : ls.length + 1 - (p + 1) = ls.length - p := by omega
          have e2 : ls.length - p - (ls.length + 1 - p) = 0 := by omega
          have b1 : Nat.ble (p + (ls.length - p)) (ls.length + 1) = true := Nat.ble_eq_true_of_le (by omega)
          have b2 : Nat.ble (p + 1 + (ls.length - p)) (ls.length + 1) = true := Nat.ble_eq_true_of_le (by omega)
          generalize hLL : (List.range ls.length).map g = L at *
          have lL : L.length = ls.length := by rw [← hLL]; simp
          generalize hL' : L ++ [V.base (.slice none 0 0)] = L' at *
          have lL' : L'.length = ls.length + 1 := by rw [← hL']; simp [lL]
          have hld : ∀ {kk : List V → Out}, loadN (ofT L') p (ls.length - p) kk = kk ((L'.drop p).take (ls.length - p)) := loadN_ofT (by omega)
          generalize hM : (L'.drop p).take (ls.length - p) = M at *
          have lM : M.length = ls.length - p := by rw [← hM]; simp; omega
          have hA2 : allOne M = true := allOne_of fun v hv => by
            rw [← hM] at hv
            have hv := List.mem_of_mem_drop (List.mem_of_mem_take hv)
            rw [← hL', ← hLL] at hv
            rcases List.mem_append.1 hv with hv | hv
            · obtain ⟨j, hj, rfl⟩ := List.mem_map.1 hv
              exact (hg j (List.mem_range.1 hj)).2.1.1.one
            · rw [List.mem_singleton.1 hv]; rfl
          have getL' : ∀ j, L'[j]? = if j < ls.length then some (g j) else if j = ls.length then some (V.base (.slice none 0 0)) else none := fun j => by
            rw [← hL', ← hLL, List.getElem?_append, List.length_map, List.length_range]
            split
            · rename_i hj; rw [List.getElem?_map, List.getElem?_range hj]; rfl
            · rename_i hj
              by_cases e : j = ls.length
              · rw [e, Nat.sub_self, if_pos rfl]; rfl
              · rw [if_neg e, List.getElem?_eq_none (by simp; omega)]
          have hT : ∀ j, j < ls.length + 1 → ((layT (ofT L') (p + 1) M).put p (some vr)).get j = some (if j < p then g j else if j = p then vr else g (j - 1)) := fun j hj => by
            rw [T.get_put]
            by_cases c : j = p
            · rw [if_pos c, if_neg (by omega), if_pos c]
            · rw [if_neg c, layT_get, lM, ofT_get]
              by_cases c' : j < p
              · rw [if_neg (by omega), if_pos c', getL', if_pos (by omega)]
              · rw [if_pos (by omega), if_neg c', if_neg c, ← hM, List.getElem?_take, if_pos (by omega), List.getElem?_drop, getL', if_pos (by omega)]
                congr 2; omega
          have fin : ∀ {T' : T V} {H : T O}, H.get (n' + 1) = some (.cells T' (ls.length + 1) 1) → (∀ j, j < n' → j ≠ id → H.get j = h'.get j) →
              (∀ j, j < ls.length + 1 → T'.get j = some (if j < p then g j else if j = p then vr else g (j - 1))) →
              W env1 Q fun go => popK (V.slice (n' + 1) 0 (ls.length + 1) false 0 (ls.length + 1)) cs H (n' + 1 + 1) go := fun {T' H} a b c =>
            K _ _ _ ⟨by
              rw [hres]
              exact put_fin hpl (fun j hj => ⟨(hg j hj).2.1, (hg j hj).2.2⟩) hr (fun e => by have := hv _ e; omega) a (by omega) (by omega) (by omega) (by omega) b c,
              by omega, fun j hj => b j (by omega) (by omega)⟩
          by_cases c3 : p < ls.length
          · have c4 : p + 1 ≤ ls.length := c3
            have c5 : p ≤ ls.length := by omega
            simp (maxSteps := 2000000) (disch := first | omega | assumption) only [↓mCode, ↓mOps, mVal, mBase, vPtr, Int.reduceLT, Int.reduceAdd, Int.reduceSub, Int.reduceLE, Int.reduceToNat, Int.reduceNeg, ite_true, ite_false, Nat.reduceAdd, Nat.reduceSub, Nat.reduceMul, Nat.reduceEqDiff, Nat.reduceLeDiff, reduceIte, ite_ne, wrap_i64, boundN_int, e1_tys, e1_fns, fn24, Tryz.f24, resultsK_eq, ty3, ty31, ty22, r0, r1, r2, r7, l_len, src22_s, need_true, one_r, cell_r, copyK_slice, Nat.mul_one, e1, e2, e3, b1, b2, hld, hA2, lM, lL, c4, c5]
            refine fin (T.get_put _ _ _ _ |>.trans (if_pos rfl)) (fun j hj hne => ?_) hT
            simp only [T.get_put]
            repeat rw [if_neg (by omega)]
          · have c4 : p = ls.length := by omega
            have c6 : ¬ (p + 1 ≤ ls.length) := by omega
            have c5 : p ≤ ls.length := by omega
            simp (maxSteps := 2000000) (disch := first | omega | assumption) only [↓mCode, ↓mOps, mVal, mBase, vPtr, Int.reduceLT, Int.reduceAdd, Int.reduceSub, Int.reduceLE, Int.reduceToNat, Int.reduceNeg, ite_true, ite_false, Nat.reduceAdd, Nat.reduceSub, Nat.reduceMul, Nat.reduceEqDiff, Nat.reduceLeDiff, reduceIte, ite_ne, wrap_i64, boundN_int, e1_tys, e1_fns, fn24, Tryz.f24, resultsK_eq, ty3, ty31, ty22, r0, r1, r2, r7, l_len, src22_s, need_true, one_r, cell_r, copyK_tail, Nat.mul_one, e1, e2, e3, b1, b2, hld, hA2, lM, lL, c6, c5]
            refine fin (T.get_put _ _ _ _ |>.trans (if_pos rfl)) (fun j hj hne => ?_) fun j hj => ?_
            · simp only [T.get_put]
              repeat rw [if_neg (by omega)]
            · rw [T.get_put]
              by_cases c : j = p
              · rw [if_pos c, if_neg (by omega), if_pos c]
              · rw [if_neg c, ofT_get, getL', if_pos (by omega), if_pos (by omega)]
      · have c7' : ¬ (p : Int) < (ls.length : Int) := by omega
        have hres : (if true = true then insOnce cmpR x ls else ins cmpR x ls) = ls.take p ++ x :: ls.drop p := by
          rw [if_pos rfl, insOnce_pos, hp, if_neg (fun e => c7 e.1)]
        simp (maxSteps := 2000000) (disch := first | omega | assumption) only [↓mCode, ↓mOps, mVal, mBase, vPtr, Int.reduceLT, Int.reduceAdd, Int.reduceSub, Int.reduceLE, Int.reduceToNat, Int.reduceNeg, ite_true, ite_false, Nat.reduceAdd, Nat.reduceSub, Nat.reduceMul, Nat.reduceEqDiff, Nat.reduceLeDiff, reduceIte, ite_ne, wrap_i64, boundN_int, e1_tys, e1_fns, fn24, Tryz.f24, resultsK_eq, ty3, ty31, ty22, r0, r1, r2, r7, l_len, src22_s, need_true, app1_eq, app2_eq, growK_eq, hC, hA, c2, g1, Nat.mul_one, c7']
        refine W_draw sr24_7 ss24_7 ?_ ?_
        · exact sk24_7
        have e1 : ((p : Int) + 1).toNat = p + 1 := by omega
        have e3 : ls.length + 1 - (p + 1) = ls.length - p := by omega
        have e2 : ls.length - p - (ls.length + 1 - p) = 0 := by omega
        have b1 : Nat.ble (p + (ls.length - p)) (ls.length + 1) = true := Nat.ble_eq_true_of_le (by omega)
        have b2 : Nat.ble (p + 1 + (ls.length - p)) (ls.length + 1) = true := Nat.ble_eq_true_of_le (by omega)
        generalize hLL : (List.range ls.length).map g = L at *
        have lL : L.length = ls.length := by rw [← hLL]; simp
        generalize hL' : L ++ [V.base (.slice none 0 0)] = L' at *
        have lL' : L'.length = ls.length + 1 := by rw [← hL']; simp [lL]
        have hld : ∀ {kk : List V → Out}, loadN (ofT L') p (ls.length - p) kk = kk ((L'.drop p).take (ls.length - p)) := loadN_ofT (by omega)
        generalize hM : (L'.drop p).take (ls.length - p) = M at *
        have lM : M.length = ls.length - p := by rw [← hM]; simp; omega
        have hA2 : allOne M = true := allOne_of fun v hv => by
          rw [← hM] at hv
          have hv := List.mem_of_mem_drop (List.mem_of_mem_take hv)
          rw [← hL', ← hLL] at hv
          rcases List.mem_append.1 hv with hv | hv
          · obtain ⟨j, hj, rfl⟩ := List.mem_map.1 hv
            exact (hg j (List.mem_range.1 hj)).2.1.1.one
          · rw [List.mem_singleton.1 hv]; rfl
        have getL' : ∀ j, L'[j]? = if j < ls.length then some (g j) else if j = ls.length then some (V.base (.slice none 0 0)) else none := fun j => by
          rw [← hL', ← hLL, List.getElem?_append, List.length_map, List.length_range]
          split
          · rename_i hj; rw [List.getElem?_map, List.getElem?_range hj]; rfl
          · rename_i hj
            by_cases e : j = ls.length
            · rw [e, Nat.sub_self, if_pos rfl]; rfl
            · rw [if_neg e, List.getElem?_eq_none (by simp; omega)]
        have hT : ∀ j, j < ls.length + 1 → ((layT (ofT L') (p + 1) M).put p (some vr)).get j = some (if j < p then g j else if j = p then vr else g (j - 1)) := fun j hj => by
          rw [T.get_put]
          by_cases c : j = p
          · rw [if_pos c, if_neg (by omega), if_pos c]
          · rw [if_neg c, layT_get, lM, ofT_get]
            by_cases c' : j < p
            · rw [if_neg (by omega), if_pos c', getL', if_pos (by omega)]
            · rw [if_pos (by omega), if_neg c', if_neg c, ← hM, List.getElem?_take, if_pos (by omega), List.getElem?_drop, getL', if_pos (by omega)]
              congr 2; omega
        have fin : ∀ {T' : T V} {H : T O}, H.get (n' + 1) = some (.cells T' (ls.length + 1) 1) → (∀ j, j < n' → j ≠ id → H.get j = h'.get j) →
            (∀ j, j < ls.length + 1 → T'.get j = some (if j < p then g j else if j = p then vr else g (j - 1))) →
            W env1 Q fun go => popK (V.slice (n' + 1) 0 (ls.length + 1) false 0 (ls.length + 1)) cs H (n' + 1 + 1) go := fun {T' H} a b c =>
          K _ _ _ ⟨by
            rw [hres]
            exact put_fin hpl (fun j hj => ⟨(hg j hj).2.1, (hg j hj).2.2⟩) hr (fun e => by have := hv _ e; omega) a (by omega) (by omega) (by omega) (by omega) b c,
            by omega, fun j hj => b j (by omega) (by omega)⟩
        by_cases c3 : p < ls.length
        · exact absurd c3 c7
        · have c4 : p = ls.length := by omega
          have c6 : ¬ (p + 1 ≤ ls.length) := by omega
          have c5 : p ≤ ls.length := by omega
          simp (maxSteps := 2000000) (disch := first | omega | assumption) only [↓mCode, ↓mOps, mVal, mBase, vPtr, Int.reduceLT, Int.reduceAdd, Int.reduceSub, Int.reduceLE, Int.reduceToNat, Int.reduceNeg, ite_true, ite_false, Nat.reduceAdd, Nat.reduceSub, Nat.reduceMul, Nat.reduceEqDiff, Nat.reduceLeDiff, reduceIte, ite_ne, wrap_i64, boundN_int, e1_tys, e1_fns, fn24, Tryz.f24, resultsK_eq, ty3, ty31, ty22, r0, r1, r2, r7, l_len, src22_s, need_true, one_r, cell_r, copyK_tail, Nat.mul_one, e1, e2, e3, b1, b2, hld, hA2, lM, lL, c6, c5]
          refine fin (T.get_put _ _ _ _ |>.trans (if_pos rfl)) (fun j hj hne => ?_) fun j hj => ?_
          · simp only [T.get_put]
            repeat rw [if_neg (by omega)]
          · rw [T.get_put]
            by_cases c : j = p
            · rw [if_pos c, if_neg (by omega), if_pos c]
            · rw [if_neg c, ofT_get, getL', if_pos (by omega), if_pos (by omega)]
    | false =>
      have hres : (if false = true then insOnce cmpR x ls else ins cmpR x ls) = ls.take p ++ x :: ls.drop p := by
        rw [if_neg (by simp), ins_pos, hp]
      simp (maxSteps := 2000000) (disch := first | omega | assumption) only [↓mCode, ↓mOps, mVal, mBase, vPtr, Int.reduceLT, Int.reduceAdd, Int.reduceSub, Int.reduceLE, Int.reduceToNat, Int.reduceNeg, ite_true, ite_false, Nat.reduceAdd, Nat.reduceSub, Nat.reduceMul, Nat.reduceEqDiff, Nat.reduceLeDiff, reduceIte, ite_ne, wrap_i64, boundN_int, e1_tys, e1_fns, fn24, Tryz.f24, resultsK_eq, ty3, ty31, ty22, r0, r1, r2, r7, l_len, src22_s, need_true, app1_eq, app2_eq, growK_eq, hC, hA, c2, g1, Nat.mul_one]
      refine W_draw sr24_7 ss24_7 ?_ ?_
      · exact sk24_7
      have e1 : ((p : Int) + 1).toNat = p + 1 := by omega
      have e3 : ls.length + 1 - (p + 1) = ls.length - p := by omega
      have e2 : ls.length - p - (ls.length + 1 - p) = 0 := by omega
      have b1 : Nat.ble (p + (ls.length - p)) (ls.length + 1) = true := Nat.ble_eq_true_of_le (by omega)
      have b2 : Nat.ble (p + 1 + (ls.length - p)) (ls.length + 1) = true := Nat.ble_eq_true_of_le (by omega)
      generalize hLL : (List.range ls.length).map g = L at *
      have lL : L.length = ls.length := by rw [← hLL]; simp
      generalize hL' : L ++ [V.base (.slice none 0 0)] = L' at *
      have lL' : L'.length = ls.length + 1 := by rw [← hL']; simp [lL]
      have hld : ∀ {kk : List V → Out}, loadN (ofT L') p (ls.length - p) kk = kk ((L'.drop p).take (ls.length - p)) := loadN_ofT (by omega)
      generalize hM : (L'.drop p).take (ls.length - p) = M at *
      have lM : M.length = ls.length - p := by rw [← hM]; simp; omega
      have hA2 : allOne M = true := allOne_of fun v hv => by
        rw [← hM] at hv
        have hv := List.mem_of_mem_drop (List.mem_of_mem_take hv)
        rw [← hL', ← hLL] at hv
        rcases List.mem_append.1 hv with hv | hv
        · obtain ⟨j, hj, rfl⟩ := List.mem_map.1 hv
          exact (hg j (List.mem_range.1 hj)).2.1.1.one
        · rw [List.mem_singleton.1 hv]; rfl
      have getL' : ∀ j, L'[j]? = if j < ls.length then some (g j) else if j = ls.length then some (V.base (.slice none 0 0)) else none := fun j => by
        rw [← hL', ← hLL, List.getElem?_append, List.length_map, List.length_range]
        split
        · rename_i hj; rw [List.getElem?_map, List.getElem?_range hj]; rfl
        · rename_i hj
          by_cases e : j = ls.length
          · rw [e, Nat.sub_self, if_pos rfl]; rfl
          · rw [if_neg e, List.getElem?_eq_none (by simp; omega)]
      have hT : ∀ j, j < ls.length + 1 → ((layT (ofT L') (p + 1) M).put p (some vr)).get j = some (if j < p then g j else if j = p then vr else g (j - 1)) := fun j hj => by
        rw [T.get_put]
        by_cases c : j = p
        · rw [if_pos c, if_neg (by omega), if_pos c]
        · rw [if_neg c, layT_get, lM, ofT_get]
          by_cases c' : j < p
          · rw [if_neg (by omega), if_pos c', getL', if_pos (by omega)]
          · rw [if_pos (by omega), if_neg c', if_neg c, ← hM, List.getElem?_take, if_pos (by omega), List.getElem?_drop, getL', if_pos (by omega)]
            congr 2; omega
      have fin : ∀ {T' : T V} {H : T O}, H.get (n' + 1) = some (.cells T' (ls.length + 1) 1) → (∀ j, j < n' → j ≠ id → H.get j = h'.get j) →
          (∀ j, j < ls.length + 1 → T'.get j = some (if j < p then g j else if j = p then vr else g (j - 1))) →
          W env1 Q fun go => popK (V.slice (n' + 1) 0 (ls.length + 1) false 0 (ls.length + 1)) cs H (n' + 1 + 1) go := fun {T' H} a b c =>
        K _ _ _ ⟨by
          rw [hres]
          exact put_fin hpl (fun j hj => ⟨(hg j hj).2.1, (hg j hj).2.2⟩) hr (fun e => by have := hv _ e; omega) a (by omega) (by omega) (by omega) (by omega) b c,
          by omega, fun j hj => b j (by omega) (by omega)⟩
      by_cases c3 : p < ls.length
      · have c4 : p + 1 ≤ ls.length := c3
        have c5 : p ≤ ls.length := by omega
        simp (maxSteps := 2000000) (disch := first | omega | assumption) only [↓mCode, ↓mOps, mVal, mBase, vPtr, Int.reduceLT, Int.reduceAdd, Int.reduceSub, Int.reduceLE, Int.reduceToNat, Int.reduceNeg, ite_true, ite_false, Nat.reduceAdd, Nat.reduceSub, Nat.reduceMul, Nat.reduceEqDiff, Nat.reduceLeDiff, reduceIte, ite_ne, wrap_i64, boundN_int, e1_tys, e1_fns, fn24, Tryz.f24, resultsK_eq, ty3, ty31, ty22, r0, r1, r2, r7, l_len, src22_s, need_true, one_r, cell_r, copyK_slice, Nat.mul_one, e1, e2, e3, b1, b2, hld, hA2, lM, lL, c4, c5]
        refine fin (T.get_put _ _ _ _ |>.trans (if_pos rfl)) (fun j hj hne => ?_) hT
        simp only [T.get_put]
        repeat rw [if_neg (by omega)]
      · have c4 : p = ls.length := by omega
        have c6 : ¬ (p + 1 ≤ ls.length) := by omega
        have c5 : p ≤ ls.length := by omega
        simp (maxSteps := 2000000) (disch := first | omega | assumption) only [↓mCode, ↓mOps, mVal, mBase, vPtr, Int.reduceLT, Int.reduceAdd, Int.reduceSub, Int.reduceLE, Int.reduceToNat, Int.reduceNeg, ite_true, ite_false, Nat.reduceAdd, Nat.reduceSub, Nat.reduceMul, Nat.reduceEqDiff, Nat.reduceLeDiff, reduceIte, ite_ne, wrap_i64, boundN_int, e1_tys, e1_fns, fn24, Tryz.f24, resultsK_eq, ty3, ty31, ty22, r0, r1, r2, r7, l_len, src22_s, need_true, one_r, cell_r, copyK_tail, Nat.mul_one, e1, e2, e3, b1, b2, hld, hA2, lM, lL, c6, c5]
        refine fin (T.get_put _ _ _ _ |>.trans (if_pos rfl)) (fun j hj hne => ?_) fun j hj => ?_
        · simp only [T.get_put]
          repeat rw [if_neg (by omega)]
        · rw [T.get_put]
          by_cases c : j = p
          · rw [if_pos c, if_neg (by omega), if_pos c]
          · rw [if_neg c, ofT_get, getL', if_pos (by omega), if_pos (by omega)]
end Go.Mir
namespace Go.Mir
open Go Go.Proofs Go.Srt
set_option maxRecDepth 4000
set_option maxHeartbeats 1000000

theorem RowsIn.get {h : T O} {n : Nat} {v : V} {ls : List (List Tm)} (R : RowsIn h n v ls) {i : Nat} (hi : i < ls.length) : ∃ id off ex k lo r, v = .slice id off ls.length ex k lo ∧ ls.length ≤ lo ∧ id < n ∧
    (∀ (h' : T O), h'.get id = h.get id → ∀ (kk : V → Out), cellAt h' id (off + i) kk = kk r) ∧ RowIn h n r (ls.getD i []) := by
  obtain ⟨h1, g, S, hr⟩ := R
  generalize hL : ls.length = L at S
  cases S with
  | nil => omega
  | tail => omega
  | slice id off len ex k lo hlo C =>
    exact ⟨id, off, ex, k, lo, g i, rfl, hlo, h1 id rfl, fun h' hh kk => (C.keep hh).at (by omega) rfl, hr i (by omega)⟩

/-- one more row -/
noncomputable def putR (once : Bool) (x : List Tm) (l : List (List Tm)) : List (List Tm) := if once then insOnce cmpR x l else ins cmpR x l

theorem putR_eq (once : Bool) (x : List Tm) (l : List (List Tm)) : putR once x l = l ∨ putR once x l = l.take (pos cmpR x l) ++ x :: l.drop (pos cmpR x l) := by
  unfold putR
  cases once with
  | true =>
    rw [if_pos rfl, insOnce_pos]
    split
    · exact .inl rfl
    · exact .inr rfl
  | false => rw [if_neg (by simp), ins_pos]; exact .inr rfl

theorem putR_len (once : Bool) (x : List Tm) (l : List (List Tm)) : (putR once x l).length ≤ l.length + 1 := by
  have := pos_le cmpR x l
  rcases putR_eq once x l with e | e <;> rw [e]
  · omega
  · simp; omega
theorem putR_mem (once : Bool) (x : List Tm) (l : List (List Tm)) {y : List Tm} (hy : y ∈ putR once x l) : y = x ∨ y ∈ l := by
  rcases putR_eq once x l with e | e <;> rw [e] at hy
  · exact .inr hy
  · rcases List.mem_append.1 hy with h | h
    · exact .inr (List.mem_of_mem_take h)
    · rcases List.mem_cons.1 h with h | h
      · exact .inl h
      · exact .inr (List.mem_of_mem_drop h)
theorem small_iff {ls : List (List Tm)} : Small ls ↔ ∀ y ∈ ls, y.length ≤ 1000000 := by
  constructor
  · intro h y hy
    obtain ⟨i, hi, rfl⟩ := List.getElem_of_mem hy
    have := h i hi
    rwa [List.getD_eq_getElem?_getD, List.getElem?_eq_getElem hi] at this
  · intro h i hi
    rw [List.getD_eq_getElem?_getD, List.getElem?_eq_getElem hi]
    exact h _ (List.getElem_mem hi)

/-- rows, by the reference's Sort -/
theorem sort20_ok {h : T O} {n : Nat} {va : V} {la : List (List Tm)} (ha : RowsIn h n va la) (hn : la.length ≤ 900) (hs : Small la) :
    Fn env1 10 [va] h n (fun v h' n' => OutAt h' n n' v (la.foldl (fun acc x => putR false x acc) []) ∧ Gro h n h' n') := by
  refine Fn.mk fn10 rfl fz10 (by simp) fun Q cs K => ?_
  have l_len : ∀ {h' : T O} {e : Nat} {k : V → Out}, lenIn h' (.slice e) va k = k (.int .i64 (la.length : Int)) := by
    intro h' e k; have := ha.rows
    obtain ⟨g, S, _⟩ := this
    generalize la.length = L at S ⊢
    cases S with
    | nil => exact lenIn_nil
    | tail => exact lenIn_tail
    | slice => exact lenIn_slice
  simp (maxSteps := 2000000) (disch := first | omega | assumption) only [↓mCode, ↓mOps, mVal, mBase, vPtr, Int.reduceLT, Int.reduceAdd, Int.reduceSub, Int.reduceLE, Int.reduceToNat, Int.reduceNeg, ite_true, ite_false, Nat.reduceAdd, Nat.reduceSub, Nat.reduceMul, Nat.reduceEqDiff, Nat.reduceLeDiff, reduceIte, ite_ne, wrap_i64, boundN_int, e1_tys, e1_fns, fn10, Tryz.f10, resultsK_eq, ty3, ty22, ty31, l_len]
  refine W_loop (fun m regs h' n' => ∃ (i : Nat) (acc : V), m = la.length - i ∧ i ≤ la.length ∧ regs.get 0 = some va ∧ regs.get 3 = some acc ∧ regs.get 4 = some (.int .i64 (i : Int)) ∧
    OutAt h' n n' acc ((la.take i).foldl (fun acc x => putR false x acc) []) ∧ ((la.take i).foldl (fun acc x => putR false x acc) []).length ≤ i ∧ Small ((la.take i).foldl (fun acc x => putR false x acc) []) ∧ Gro h n h' n')
    _ ⟨0, _, rfl, by omega, ?_, ?_, ?_, .inl ⟨rfl, rfl⟩, Nat.le_refl _, fun i hi => absurd hi (by simp), Gro.refl h n⟩ ?_
  · simp (maxSteps := 2000000) (disch := first | omega | assumption) only [↓mCode, ↓mOps, mVal, mBase, vPtr, Int.reduceLT, Int.reduceAdd, Int.reduceSub, Int.reduceLE, Int.reduceToNat, Int.reduceNeg, ite_true, ite_false, Nat.reduceAdd, Nat.reduceSub, Nat.reduceMul, Nat.reduceEqDiff, Nat.reduceLeDiff, reduceIte, ite_ne, wrap_i64, boundN_int, e1_tys]
  · simp (maxSteps := 2000000) (disch := first | omega | assumption) only [↓mCode, ↓mOps, mVal, mBase, vPtr, Int.reduceLT, Int.reduceAdd, Int.reduceSub, Int.reduceLE, Int.reduceToNat, Int.reduceNeg, ite_true, ite_false, Nat.reduceAdd, Nat.reduceSub, Nat.reduceMul, Nat.reduceEqDiff, Nat.reduceLeDiff, reduceIte, ite_ne, wrap_i64, boundN_int, e1_tys]
  · simp (maxSteps := 2000000) (disch := first | omega | assumption) only [↓mCode, ↓mOps, mVal, mBase, vPtr, Int.reduceLT, Int.reduceAdd, Int.reduceSub, Int.reduceLE, Int.reduceToNat, Int.reduceNeg, ite_true, ite_false, Nat.reduceAdd, Nat.reduceSub, Nat.reduceMul, Nat.reduceEqDiff, Nat.reduceLeDiff, reduceIte, ite_ne, wrap_i64, boundN_int, e1_tys]
  rintro m regs h' n' ⟨i, acc, rfl, hi, r0, r3, r4, O1, O2, O3, G⟩ IH
  by_cases c1 : i < la.length
  · have c1' : (i : Int) < (la.length : Int) := by omega
    obtain ⟨ida, ofa, exa, ka, loa, ra, hvl, hloa, hida, hca, hra⟩ := ha.get c1
    have hca := hca h' (G.2 ida hida)
    simp (maxSteps := 2000000) (disch := first | omega | assumption) only [↓mCode, ↓mOps, mVal, mBase, vPtr, Int.reduceLT, Int.reduceAdd, Int.reduceSub, Int.reduceLE, Int.reduceToNat, Int.reduceNeg, ite_true, ite_false, Nat.reduceAdd, Nat.reduceSub, Nat.reduceMul, Nat.reduceEqDiff, Nat.reduceLeDiff, reduceIte, ite_ne, wrap_i64, boundN_int, e1_tys, e1_fns, fn10, Tryz.f10, resultsK_eq, ty3, ty22, ty31, r0, r3, r4, l_len, c1', hvl, hca, Nat.mul_one]
    refine (put_ok O1 (hra.ext G) hra.2 (by omega) (hs i c1) O3 G.1).call rfl e1_subs ?_
    rintro v h2 n2 ⟨O4, G2⟩
    have hstep : (la.take (i + 1)).foldl (fun acc x => putR false x acc) [] = putR false (la.getD i []) ((la.take i).foldl (fun acc x => putR false x acc) []) := by
      rw [List.take_add_one, List.foldl_append, List.getElem?_eq_getElem c1, List.getD_eq_getElem?_getD, List.getElem?_eq_getElem c1]; rfl
    simp (maxSteps := 2000000) (disch := first | omega | assumption) only [↓mCode, ↓mOps, mVal, mBase, vPtr, Int.reduceLT, Int.reduceAdd, Int.reduceSub, Int.reduceLE, Int.reduceToNat, Int.reduceNeg, ite_true, ite_false, Nat.reduceAdd, Nat.reduceSub, Nat.reduceMul, Nat.reduceEqDiff, Nat.reduceLeDiff, reduceIte, ite_ne, wrap_i64, boundN_int, e1_tys, e1_fns, fn10, Tryz.f10, resultsK_eq, ty3, ty22, ty31, r0, r3, r4]
    refine IH (la.length - (i + 1)) _ _ _ (by omega) ⟨i + 1, v, rfl, by omega, ?_, ?_, ?_, ?_, ?_, ?_, ⟨G2.1, fun j hj => (G2.2 j hj).trans (G.2 j hj)⟩⟩
    · simp (maxSteps := 2000000) (disch := first | omega | assumption) only [↓mCode, ↓mOps, mVal, mBase, vPtr, Int.reduceLT, Int.reduceAdd, Int.reduceSub, Int.reduceLE, Int.reduceToNat, Int.reduceNeg, ite_true, ite_false, Nat.reduceAdd, Nat.reduceSub, Nat.reduceMul, Nat.reduceEqDiff, Nat.reduceLeDiff, reduceIte, ite_ne, wrap_i64, boundN_int, r0, hvl]
    · simp (maxSteps := 2000000) (disch := first | omega | assumption) only [↓mCode, ↓mOps, mVal, mBase, vPtr, Int.reduceLT, Int.reduceAdd, Int.reduceSub, Int.reduceLE, Int.reduceToNat, Int.reduceNeg, ite_true, ite_false, Nat.reduceAdd, Nat.reduceSub, Nat.reduceMul, Nat.reduceEqDiff, Nat.reduceLeDiff, reduceIte, ite_ne, wrap_i64, boundN_int, r3]
    · simp (maxSteps := 2000000) (disch := first | omega | assumption) only [↓mCode, ↓mOps, mVal, mBase, vPtr, Int.reduceLT, Int.reduceAdd, Int.reduceSub, Int.reduceLE, Int.reduceToNat, Int.reduceNeg, ite_true, ite_false, Nat.reduceAdd, Nat.reduceSub, Nat.reduceMul, Nat.reduceEqDiff, Nat.reduceLeDiff, reduceIte, ite_ne, wrap_i64, boundN_int, r4]; rfl
    · rw [hstep]; exact O4
    · rw [hstep]; have := putR_len false (la.getD i []) ((la.take i).foldl (fun acc x => putR false x acc) []); omega
    · rw [hstep, small_iff]
      intro y hy
      rcases putR_mem _ _ _ hy with rfl | hy
      · exact hs i c1
      · exact small_iff.1 O3 y hy
  · have c1' : ¬ (i : Int) < (la.length : Int) := by omega
    simp (maxSteps := 2000000) (disch := first | omega | assumption) only [↓mCode, ↓mOps, mVal, mBase, vPtr, Int.reduceLT, Int.reduceAdd, Int.reduceSub, Int.reduceLE, Int.reduceToNat, Int.reduceNeg, ite_true, ite_false, Nat.reduceAdd, Nat.reduceSub, Nat.reduceMul, Nat.reduceEqDiff, Nat.reduceLeDiff, reduceIte, ite_ne, wrap_i64, boundN_int, e1_tys, e1_fns, fn10, Tryz.f10, resultsK_eq, ty3, ty22, ty31, r0, r3, r4, l_len, c1']
    refine K _ _ _ ⟨?_, G⟩
    rw [List.take_of_length_le (by omega)] at O1
    exact O1

/-- rows, by the reference's Distinct -/
theorem dist20_ok {h : T O} {n : Nat} {va : V} {la : List (List Tm)} (ha : RowsIn h n va la) (hn : la.length ≤ 900) (hs : Small la) :
    Fn env1 12 [va] h n (fun v h' n' => OutAt h' n n' v (la.foldl (fun acc x => putR true x acc) []) ∧ Gro h n h' n') := by
  refine Fn.mk fn12 rfl fz12 (by simp) fun Q cs K => ?_
  have l_len : ∀ {h' : T O} {e : Nat} {k : V → Out}, lenIn h' (.slice e) va k = k (.int .i64 (la.length : Int)) := by
    intro h' e k; have := ha.rows
    obtain ⟨g, S, _⟩ := this
    generalize la.length = L at S ⊢
    cases S with
    | nil => exact lenIn_nil
    | tail => exact lenIn_tail
    | slice => exact lenIn_slice
  simp (maxSteps := 2000000) (disch := first | omega | assumption) only [↓mCode, ↓mOps, mVal, mBase, vPtr, Int.reduceLT, Int.reduceAdd, Int.reduceSub, Int.reduceLE, Int.reduceToNat, Int.reduceNeg, ite_true, ite_false, Nat.reduceAdd, Nat.reduceSub, Nat.reduceMul, Nat.reduceEqDiff, Nat.reduceLeDiff, reduceIte, ite_ne, wrap_i64, boundN_int, e1_tys, e1_fns, fn12, Tryz.f12, resultsK_eq, ty3, ty22, ty31, l_len]
  refine W_loop (fun m regs h' n' => ∃ (i : Nat) (acc : V), m = la.length - i ∧ i ≤ la.length ∧ regs.get 0 = some va ∧ regs.get 3 = some acc ∧ regs.get 4 = some (.int .i64 (i : Int)) ∧
    OutAt h' n n' acc ((la.take i).foldl (fun acc x => putR true x acc) []) ∧ ((la.take i).foldl (fun acc x => putR true x acc) []).length ≤ i ∧ Small ((la.take i).foldl (fun acc x => putR true x acc) []) ∧ Gro h n h' n')
    _ ⟨0, _, rfl, by omega, ?_, ?_, ?_, .inl ⟨rfl, rfl⟩, Nat.le_refl _, fun i hi => absurd hi (by simp), Gro.refl h n⟩ ?_
  · simp (maxSteps := 2000000) (disch := first | omega | assumption) only [↓mCode, ↓mOps, mVal, mBase, vPtr, Int.reduceLT, Int.reduceAdd, Int.reduceSub, Int.reduceLE, Int.reduceToNat, Int.reduceNeg, ite_true, ite_false, Nat.reduceAdd, Nat.reduceSub, Nat.reduceMul, Nat.reduceEqDiff, Nat.reduceLeDiff, reduceIte, ite_ne, wrap_i64, boundN_int, e1_tys]
  · simp (maxSteps := 2000000) (disch := first | omega | assumption) only [↓mCode, ↓mOps, mVal, mBase, vPtr, Int.reduceLT, Int.reduceAdd, Int.reduceSub, Int.reduceLE, Int.reduceToNat, Int.reduceNeg, ite_true, ite_false, Nat.reduceAdd, Nat.reduceSub, Nat.reduceMul, Nat.reduceEqDiff, Nat.reduceLeDiff, reduceIte, ite_ne, wrap_i64, boundN_int, e1_tys]
  · simp (maxSteps := 2000000) (disch := first | omega | assumption) only [↓mCode, ↓mOps, mVal, mBase, vPtr, Int.reduceLT, Int.reduceAdd, Int.reduceSub, Int.reduceLE, Int.reduceToNat, Int.reduceNeg, ite_true, ite_false, Nat.reduceAdd, Nat.reduceSub, Nat.reduceMul, Nat.reduceEqDiff, Nat.reduceLeDiff, reduceIte, ite_ne, wrap_i64, boundN_int, e1_tys]
  rintro m regs h' n' ⟨i, acc, rfl, hi, r0, r3, r4, O1, O2, O3, G⟩ IH
  by_cases c1 : i < la.length
  · have c1' : (i : Int) < (la.length : Int) := by omega
    obtain ⟨ida, ofa, exa, ka, loa, ra, hvl, hloa, hida, hca, hra⟩ := ha.get c1
    have hca := hca h' (G.2 ida hida)
    simp (maxSteps := 2000000) (disch := first | omega | assumption) only [↓mCode, ↓mOps, mVal, mBase, vPtr, Int.reduceLT, Int.reduceAdd, Int.reduceSub, Int.reduceLE, Int.reduceToNat, Int.reduceNeg, ite_true, ite_false, Nat.reduceAdd, Nat.reduceSub, Nat.reduceMul, Nat.reduceEqDiff, Nat.reduceLeDiff, reduceIte, ite_ne, wrap_i64, boundN_int, e1_tys, e1_fns, fn12, Tryz.f12, resultsK_eq, ty3, ty22, ty31, r0, r3, r4, l_len, c1', hvl, hca, Nat.mul_one]
    refine (put_ok O1 (hra.ext G) hra.2 (by omega) (hs i c1) O3 G.1).call rfl e1_subs ?_
    rintro v h2 n2 ⟨O4, G2⟩
    have hstep : (la.take (i + 1)).foldl (fun acc x => putR true x acc) [] = putR true (la.getD i []) ((la.take i).foldl (fun acc x => putR true x acc) []) := by
      rw [List.take_add_one, List.foldl_append, List.getElem?_eq_getElem c1, List.getD_eq_getElem?_getD, List.getElem?_eq_getElem c1]; rfl
    simp (maxSteps := 2000000) (disch := first | omega | assumption) only [↓mCode, ↓mOps, mVal, mBase, vPtr, Int.reduceLT, Int.reduceAdd, Int.reduceSub, Int.reduceLE, Int.reduceToNat, Int.reduceNeg, ite_true, ite_false, Nat.reduceAdd, Nat.reduceSub, Nat.reduceMul, Nat.reduceEqDiff, Nat.reduceLeDiff, reduceIte, ite_ne, wrap_i64, boundN_int, e1_tys, e1_fns, fn12, Tryz.f12, resultsK_eq, ty3, ty22, ty31, r0, r3, r4]
    refine IH (la.length - (i + 1)) _ _ _ (by omega) ⟨i + 1, v, rfl, by omega, ?_, ?_, ?_, ?_, ?_, ?_, ⟨G2.1, fun j hj => (G2.2 j hj).trans (G.2 j hj)⟩⟩
    · simp (maxSteps := 2000000) (disch := first | omega | assumption) only [↓mCode, ↓mOps, mVal, mBase, vPtr, Int.reduceLT, Int.reduceAdd, Int.reduceSub, Int.reduceLE, Int.reduceToNat, Int.reduceNeg, ite_true, ite_false, Nat.reduceAdd, Nat.reduceSub, Nat.reduceMul, Nat.reduceEqDiff, Nat.reduceLeDiff, reduceIte, ite_ne, wrap_i64, boundN_int, r0, hvl]
    · simp (maxSteps := 2000000) (disch := first | omega | assumption) only [↓mCode, ↓mOps, mVal, mBase, vPtr, Int.reduceLT, Int.reduceAdd, Int.reduceSub, Int.reduceLE, Int.reduceToNat, Int.reduceNeg, ite_true, ite_false, Nat.reduceAdd, Nat.reduceSub, Nat.reduceMul, Nat.reduceEqDiff, Nat.reduceLeDiff, reduceIte, ite_ne, wrap_i64, boundN_int, r3]
    · simp (maxSteps := 2000000) (disch := first | omega | assumption) only [↓mCode, ↓mOps, mVal, mBase, vPtr, Int.reduceLT, Int.reduceAdd, Int.reduceSub, Int.reduceLE, Int.reduceToNat, Int.reduceNeg, ite_true, ite_false, Nat.reduceAdd, Nat.reduceSub, Nat.reduceMul, Nat.reduceEqDiff, Nat.reduceLeDiff, reduceIte, ite_ne, wrap_i64, boundN_int, r4]; rfl
    · rw [hstep]; exact O4
    · rw [hstep]; have := putR_len true (la.getD i []) ((la.take i).foldl (fun acc x => putR true x acc) []); omega
    · rw [hstep, small_iff]
      intro y hy
      rcases putR_mem _ _ _ hy with rfl | hy
      · exact hs i c1
      · exact small_iff.1 O3 y hy
  · have c1' : ¬ (i : Int) < (la.length : Int) := by omega
    simp (maxSteps := 2000000) (disch := first | omega | assumption) only [↓mCode, ↓mOps, mVal, mBase, vPtr, Int.reduceLT, Int.reduceAdd, Int.reduceSub, Int.reduceLE, Int.reduceToNat, Int.reduceNeg, ite_true, ite_false, Nat.reduceAdd, Nat.reduceSub, Nat.reduceMul, Nat.reduceEqDiff, Nat.reduceLeDiff, reduceIte, ite_ne, wrap_i64, boundN_int, e1_tys, e1_fns, fn12, Tryz.f12, resultsK_eq, ty3, ty22, ty31, r0, r3, r4, l_len, c1']
    refine K _ _ _ ⟨?_, G⟩
    rw [List.take_of_length_le (by omega)] at O1
    exact O1
end Go.Mir
namespace Go.Mir
open Go Go.Proofs Go.Srt
set_option maxRecDepth 4000
set_option maxHeartbeats 2000000

/-- a term's texts, each by its own address -/
theorem Row.cells {h : T O} {v : V} {l : List Tm} (R : Row h v l) {i : Nat} (hi : i < l.length) : ∃ id off ex k lo, v = .slice id off l.length ex k lo ∧ l.length ≤ lo ∧
    (∀ (kk : V → Out), cellAt h id (off + i * 3 + 1) kk = kk (.str (l.getD i (0, [], [])).2.1)) ∧ ∀ (kk : V → Out), cellAt h id (off + i * 3 + 2) kk = kk (.str (l.getD i (0, [], [])).2.2) := by
  unfold Row at R
  generalize hL : l.length = L at R
  cases R with
  | nil => omega
  | tail => omega
  | slice id off len ex k lo hlo C =>
    refine ⟨id, off, ex, k, lo, rfl, by omega, fun kk => ?_, fun kk => ?_⟩
    · rw [C.at (j := i * 3 + 1) (by omega) (by omega), rowG_1]
    · rw [C.at (j := i * 3 + 2) (by omega) (by omega), rowG_2]

theorem minE {L : Nat} : (if (30001 : Int) < (L : Int) then (30001 : Int) else (L : Int)) = ((min L 30001 : Nat) : Int) := by
  split <;> omega

/-- few rows, and all of them short -/
def Few (la : List (List Tm)) : Prop := la.length ≤ 100 ∧ ∀ i, i < la.length → (la.getD i []).length ≤ 100

end Go.Mir
