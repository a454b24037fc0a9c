/- Walks: may a text be an IRI's (the program's)? -/
import Derived.Test.YthninknobjneeaaGreatDoorTexJ
set_option linter.unusedSimpArgs false
set_option linter.unusedVariables false
namespace Go.Mir
open Go Go.Proofs
set_option maxRecDepth 4000
set_option maxHeartbeats 8000000

theorem contR_take : ∀ (m k : Nat) (t : List Nat) (r : Nat), m ≤ k → contR m (t.take k) r = contR m t r
  | 0, _, _, _, _ => by simp only [contR]
  | m + 1, 0, _, _, h => absurd h (by omega)
  | m + 1, k + 1, [], r, _ => rfl
  | m + 1, k + 1, c :: t, r, h => by
    simp only [List.take_succ_cons, contR]
    rw [contR_take m k t _ (by omega)]
theorem getR_take {s : List Nat} : getR (s.take 4) = getR s := by
  cases s with
  | nil => rfl
  | cons c t =>
    simp only [List.take_succ_cons, getR]
    cases e : headR c with
    | none => rfl
    | some p =>
      obtain ⟨r0, m⟩ := p
      have hm : m ≤ 3 := by
        unfold headR at e
        repeat' split at e
        all_goals first | (cases e; omega) | cases e
      simp only [Option.bind_some]
      rw [contR_take m 3 t r0 hm]

/-- a list of pairs of the run's own making -/
def Prs (h : T O) (n0 n : Nat) (v : V) (k : Nat) : Prop :=
  (v = .base (.slice none 0 0) ∧ k = 0) ∨ ∃ (id : Nat) (t : T V) (g : Nat → V), v = .slice id 0 k false 0 k ∧ h.get id = some (.cells t (k * 2) 2) ∧ n0 ≤ id ∧ id < n ∧ ∀ j, j < k * 2 → t.get j = some (g j) ∧ oneV (g j) = true

theorem src187 {id off len kk lo : Nat} {ex : Bool} : srcTy tys 174 (.slice id off len ex kk lo) = true := (by kernel_rfl : srcTy tys 174 (.slice 0 0 0 true 0 0) = true)

theorem runes01_ok {s : List Nat} {h : T O} {n : Nat} (hb : ∀ c ∈ s, c < 256) (hl : s.length ≤ 900000) : Fn env0 94 [.str s] h n (fun v h' n' => (∃ vl, v = .tuple [vl, .int .i64 (endR s : Int)]) ∧ Gro h n h' n') := by
  refine Fn.mk fn94 rfl fz94 (by simp) fun Q cs K => ?_
  simp (maxSteps := 2000000) (disch := first | omega | assumption) only [↓mCode, ↓mOps, mAll, seval, vPtr, ite_ne, wrap_i64, boundN_int, fn94, Tryz.f94]
  refine W_loopE (fun q regs h' n' => ∃ (p k : Nat) (vl : V), q = s.length - p ∧ p ≤ s.length ∧ k ≤ p ∧ regs.get 0 = some (.str s) ∧ regs.get 4 = some vl ∧ regs.get 5 = some (.int .i64 (p : Int)) ∧ Prs h' n n' vl k ∧ p + endR (s.drop p) = endR s ∧ Gro h n h' n')
    (fun regs h' n' => ∃ vl, regs.get 4 = some vl ∧ regs.get 5 = some (.int .i64 (endR s : Int)) ∧ Gro h n h' n')
    _ ⟨0, 0, _, rfl, Nat.zero_le _, Nat.le_refl _, ?_, ?_, ?_, .inl ⟨rfl, rfl⟩, by simp, Gro.refl h n⟩ ?_ ?_
  iterate 3
    · simp only [mBase, Nat.reduceEqDiff, Nat.reduceSub, reduceIte] <;> rfl
  · rintro t hexit q regs h' n' ⟨p, k, vl, e0, hp, hk, r0, r4, r5, L, hend, G⟩ IH
    by_cases c1 : p < s.length
    · have c1' : (p : Int) < (s.length : Int) := by omega
      have emin : (if (p : Int) + 4 < (s.length : Int) then (p : Int) + 4 else (s.length : Int)) = ((min (p + 4) s.length : Nat) : Int) := by split <;> omega
      have b1 : p ≤ min (p + 4) s.length := by omega
      have b2 : min (p + 4) s.length ≤ s.length := by omega
      have etk : (s.drop p).take (min (p + 4) s.length - p) = (s.drop p).take 4 := by
        by_cases q : p + 4 ≤ s.length
        · congr 1; omega
        · rw [List.take_of_length_le (by rw [List.length_drop]; omega), List.take_of_length_le (by rw [List.length_drop]; omega)]
      have hbd : ∀ c ∈ (s.drop p).take 4, c < 256 := fun c hc => hb c (List.mem_of_mem_drop (List.mem_of_mem_take hc))
      generalize hmn : min (p + 4) s.length = mn at *
      simp (maxSteps := 2000000) (disch := first | omega | assumption) only [↓mCode, ↓mOps, mAll, seval, vPtr, ite_ne, wrap_i64, boundN_int, fn94, Tryz.f94, r0, r4, r5, c1', emin, b1, b2, etk]
      refine (get01_ok hbd (by simp; omega)).call e0_hook e0_subs ?_
      rintro _ h2 n2 ⟨rfl, G2⟩
      cases hg : getR (s.drop p) with
      | none =>
        have hv : get01V ((s.drop p).take 4) = .tuple [.int .i64 0, .int .i64 0] := by unfold get01V; rw [getR_take, hg]
        have hpe : p = endR s := by rw [← hend, endR_none hg]; rfl
        simp (maxSteps := 2000000) (disch := first | omega | assumption) only [↓mCode, ↓mOps, mAll, seval, vPtr, ite_ne, wrap_i64, boundN_int, fn94, Tryz.f94, r0, r4, r5, hv]
        exact hexit _ _ _ ⟨vl, by simp only [mBase, Nat.reduceEqDiff, Nat.reduceSub, reduceIte, r4], by rw [← hpe]; simp (maxSteps := 2000000) (disch := first | omega | assumption) only [↓mCode, ↓mOps, mAll, seval, vPtr, ite_ne, wrap_i64, boundN_int, r5], G.trans G2⟩
      | some x =>
        obtain ⟨r, m⟩ := x
        have hm := getR_some hg
        have hml : p + m ≤ s.length := by have h2 := hm.2.2; rw [List.length_drop] at h2; omega
        have hv : get01V ((s.drop p).take 4) = .tuple [.int .i64 (r : Int), .int .i64 (m : Int)] := by unfold get01V; rw [getR_take, hg]
        have m0 : ((m : Int) = 0) = False := eq_false (by omega)
        have es : (p : Int) + (m : Int) = ((p + m : Nat) : Int) := by omega
        have hend2 : p + m + endR (s.drop (p + m)) = endR s := by rw [← hend, endR_some hg, List.drop_drop]; omega
        rcases L with ⟨rfl, rfl⟩ | ⟨id, t, g, rfl, g1, g2, g3, g4⟩
        · simp (maxSteps := 2000000) (disch := first | omega | assumption) only [↓mCode, ↓mOps, mAll, seval, vPtr, ite_ne, wrap_i64, boundN_int, fn94, Tryz.f94, r0, r4, r5, hv, m0, es, src187, need_true]
          refine IH (s.length - (p + m)) _ _ _ (by omega) ⟨p + m, 1, .slice (n2 + 1) 0 1 false 0 1, rfl, by omega, by omega, by simp only [mBase, Nat.reduceEqDiff, Nat.reduceSub, reduceIte, r0], by simp only [mBase, Nat.reduceEqDiff, Nat.reduceSub, reduceIte, r4], by simp only [mBase, Nat.reduceEqDiff, Nat.reduceSub, reduceIte, r5] <;> rfl,
            .inr ⟨n2 + 1, _, fun j => if j = 0 then .int .i64 (p : Int) else .int .i64 (r : Int), rfl, T.get_put _ _ _ _ |>.trans (if_pos rfl), by have := (G.trans G2).1; omega, by omega, fun j hj => ?_⟩, hend2, ((G.trans G2).put _).put _⟩
          rw [ofT_get]
          rcases (by omega : j = 0 ∨ j = 1) with rfl | rfl
          · exact ⟨rfl, rfl⟩
          · exact ⟨rfl, rfl⟩
        · have g1' : h2.get id = some (.cells t (k * 2) 2) := (G2.2 id g3).trans g1
          have hC : ∀ {kk : List V → Out}, cellsAt h2 id 0 (k * 2) kk = kk ((List.range (k * 2)).map g) := Cells.all ⟨_, t, _, 2, g1', .inl rfl, by omega, fun j hj => by rw [Nat.zero_add]; exact (g4 j hj).1⟩ rfl rfl
          have hA : allOne ((List.range (k * 2)).map g ++ [V.int .i64 (p : Int), V.int .i64 (r : Int)]) = true := allOne_of fun v hv => by
            rcases List.mem_append.1 hv with hv | hv
            · obtain ⟨j, hj, rfl⟩ := List.mem_map.1 hv
              exact (g4 j (List.mem_range.1 hj)).2
            · rcases List.mem_cons.1 hv with rfl | hv
              · rfl
              · rw [List.mem_singleton.1 hv]; rfl
          have c2 : ¬ k + 1 ≤ k := by omega
          have gid := Nat.lt_of_lt_of_le g3 G2.1
          have G3 := G.trans G2
          simp (maxSteps := 2000000) (disch := first | omega | assumption) only [↓mCode, ↓mOps, mAll, seval, vPtr, ite_ne, wrap_i64, boundN_int, fn94, Tryz.f94, r0, r4, r5, hv, m0, es, src187, need_true, app1_eq, app2_eq, growK_eq, hC, hA, c2, g1']
          refine IH (s.length - (p + m)) _ _ _ (by omega) ⟨p + m, k + 1, .slice (n2 + 1) 0 (k + 1) false 0 (k + 1), rfl, by omega, by omega, by simp only [mBase, Nat.reduceEqDiff, Nat.reduceSub, reduceIte, r0], by simp only [mBase, Nat.reduceEqDiff, Nat.reduceSub, reduceIte, r4], by simp only [mBase, Nat.reduceEqDiff, Nat.reduceSub, reduceIte, r5] <;> rfl,
            .inr ⟨n2 + 1, ofT ((List.range (k * 2)).map g ++ [V.int .i64 (p : Int), V.int .i64 (r : Int)]), fun j => if j < k * 2 then g j else if j = k * 2 then .int .i64 (p : Int) else .int .i64 (r : Int), rfl, ?_, by have := G3.1; omega, by omega, fun j hj => ?_⟩, hend2, ⟨by have := G3.1; omega, fun j hj => ?_⟩⟩
          · rw [T.get_put, if_pos rfl]
            congr 2
            simp
            omega
          · rw [ofT_get, List.getElem?_append, List.length_map, List.length_range]
            dsimp only
            by_cases q : j < k * 2
            · rw [if_pos q, if_pos q, List.getElem?_map, List.getElem?_range q]; exact ⟨rfl, (g4 j q).2⟩
            · rw [if_neg q, if_neg q]
              rcases (by omega : j = k * 2 ∨ j = k * 2 + 1) with rfl | rfl
              · rw [if_pos rfl, Nat.sub_self]; exact ⟨rfl, rfl⟩
              · rw [if_neg (by omega), show k * 2 + 1 - k * 2 = 1 by omega]; exact ⟨rfl, rfl⟩
          · have := G3.1
            simp only [T.get_put]
            repeat rw [if_neg (by omega)]
            exact G3.2 j hj
    · have c1' : ¬ (p : Int) < (s.length : Int) := by omega
      have hpe : p = endR s := by
        rw [← hend]
        have : s.drop p = [] := List.drop_of_length_le (by omega)
        rw [this]; rfl
      simp (maxSteps := 2000000) (disch := first | omega | assumption) only [↓mCode, ↓mOps, mAll, seval, vPtr, ite_ne, wrap_i64, boundN_int, fn94, Tryz.f94, r0, r4, r5, c1']
      exact hexit _ _ _ ⟨vl, by simp only [mBase, Nat.reduceEqDiff, Nat.reduceSub, reduceIte, r4], by rw [← hpe]; simp (maxSteps := 2000000) (disch := first | omega | assumption) only [↓mCode, ↓mOps, mAll, seval, vPtr, ite_ne, wrap_i64, boundN_int, r5], G⟩
  · rintro regs h' n' ⟨vl, r4, r5, G⟩
    simp (maxSteps := 2000000) (disch := first | omega | assumption) only [↓mCode, ↓mOps, mAll, seval, vPtr, ite_ne, wrap_i64, boundN_int, fn94, Tryz.f94, r4, r5]
    exact K _ _ _ ⟨⟨vl, rfl⟩, G⟩

theorem valid01_ok {s : List Nat} {h : T O} {n : Nat} (hb : ∀ c ∈ s, c < 256) (hl : s.length ≤ 900000) : Fn env0 43 [.str s] h n (fun v h' n' => v = .bool (decide (endR s = s.length)) ∧ Gro h n h' n') := by
  refine Fn.mk fn43 rfl fz43 (by simp) fun Q cs K => ?_
  simp (maxSteps := 2000000) (disch := first | omega | assumption) only [↓mCode, ↓mOps, mAll, seval, vPtr, ite_ne, wrap_i64, boundN_int, fn43, Tryz.f43]
  refine (runes01_ok hb hl).call e0_hook e0_subs ?_
  rintro _ h2 n2 ⟨⟨vl, rfl⟩, G⟩
  simp (maxSteps := 2000000) (disch := first | omega | assumption) only [↓mCode, ↓mOps, mAll, seval, vPtr, ite_ne, wrap_i64, boundN_int, fn43, Tryz.f43]
  exact K _ _ _ ⟨by congr 1; exact decide_eq_decide.2 (by omega), G⟩
end Go.Mir
namespace Go.Mir
open Go Go.Proofs
set_option maxRecDepth 4000
set_option maxHeartbeats 8000000

/-- a byte that no IRI has -/
def badB (c : Nat) : Bool := decide (c ≤ 32) || decide (c ∈ [60, 62, 123, 125, 124, 94]) || decide (c = 34) || decide (c = 92) || decide (c = 96)
def iriOk (s : List Nat) : Prop := 1 ≤ s.length ∧ s.length ≤ 1000 ∧ endR s = s.length ∧ ∀ c ∈ s, badB c = false
noncomputable def iriB (s : List Nat) : Bool := @decide (iriOk s) (Classical.propDecidable _)
theorem iriB_t {s : List Nat} (h : iriOk s) : iriB s = true := @decide_eq_true _ (Classical.propDecidable _) h
theorem iriB_f {s : List Nat} (h : ¬ iriOk s) : iriB s = false := @decide_eq_false _ (Classical.propDecidable _) h

theorem iri02_ok {s : List Nat} {h : T O} {n : Nat} (hb : ∀ c ∈ s, c < 256) (hl : s.length ≤ 4611686018427387903) : Fn env0 44 [.str s] h n (fun v h' n' => v = .bool (iriB s) ∧ Gro h n h' n') := by
  refine Fn.mk fn44 rfl fz44 (by simp) fun Q cs K => ?_
  by_cases l1 : s.length < 1
  · have l1' : ((s.length : Int) < 1) = True := eq_true (by omega)
    simp (maxSteps := 2000000) (disch := first | omega | assumption) only [↓mCode, ↓mOps, mAll, seval, vPtr, ite_ne, wrap_i64, boundN_int, fn44, Tryz.f44, l1']
    exact K _ _ _ ⟨by rw [iriB_f fun h => absurd h.1 (by omega)], Gro.refl _ _⟩
  have l1' : ((s.length : Int) < 1) = False := eq_false (by omega)
  by_cases l2 : s.length > 1000
  · have l2' : ((s.length : Int) > 1000) = True := eq_true (by omega)
    simp (maxSteps := 2000000) (disch := first | omega | assumption) only [↓mCode, ↓mOps, mAll, seval, vPtr, ite_ne, wrap_i64, boundN_int, fn44, Tryz.f44, l1', l2']
    exact K _ _ _ ⟨by rw [iriB_f fun h => absurd h.2.1 (by omega)], Gro.refl _ _⟩
  have l2' : ((s.length : Int) > 1000) = False := eq_false (by omega)
  simp (maxSteps := 2000000) (disch := first | omega | assumption) only [↓mCode, ↓mOps, mAll, seval, vPtr, ite_ne, wrap_i64, boundN_int, fn44, Tryz.f44, l1', l2']
  refine (valid01_ok hb (by omega)).call e0_hook e0_subs ?_
  rintro _ h1 n1 ⟨rfl, G⟩
  by_cases hv : endR s = s.length
  · simp (maxSteps := 2000000) (disch := first | omega | assumption) only [↓mCode, ↓mOps, mAll, seval, vPtr, ite_ne, wrap_i64, boundN_int, fn44, Tryz.f44, hv, Bool.not_true, decide_true]
    refine W_loop (fun q regs h' n' => ∃ i : Nat, q = s.length - i ∧ i ≤ s.length ∧ regs.get 0 = some (.str s) ∧ regs.get 3 = some (.int .i64 (i : Int)) ∧ (∀ j x, j < i → s[j]? = some x → badB x = false) ∧ h' = h1 ∧ n' = n1)
      _ ⟨0, rfl, by omega, ?_, ?_, fun j x hj => absurd hj (by omega), rfl, rfl⟩ ?_
    iterate 2
      · simp only [mBase, Nat.reduceEqDiff, Nat.reduceSub, reduceIte] <;> rfl
    rintro q regs h' n' ⟨i, rfl, hi, r0, r3, hx, rfl, rfl⟩ IH
    by_cases c1 : i < s.length
    · have c1' : (i : Int) < (s.length : Int) := by omega
      obtain ⟨c, hc⟩ : ∃ x, s[i]? = some x := ⟨_, List.getElem?_eq_getElem c1⟩
      have hcm : c ∈ s := List.mem_of_getElem? hc
      by_cases c2 : c ≤ 32
      · have c2' : ((c : Int) ≤ 32) = True := eq_true (by omega)
        have hbad : iriB s = false := iriB_f fun h => by have := h.2.2.2 c hcm; simp [badB, c2] at this
        simp (maxSteps := 2000000) (disch := first | omega | assumption) only [↓mCode, ↓mOps, mAll, seval, vPtr, ite_ne, wrap_i64, boundN_int, fn44, Tryz.f44, r0, r3, c1', hc, c2']
        exact K _ _ _ ⟨by rw [hbad], G⟩
      · have c2' : ((c : Int) ≤ 32) = False := eq_false (by omega)
        simp (maxSteps := 2000000) (disch := first | omega | assumption) only [↓mCode, ↓mOps, mAll, seval, vPtr, ite_ne, wrap_i64, boundN_int, fn44, Tryz.f44, List.map_nil, List.map_cons, r0, r3, c1', hc, c2']
        refine (in02_ok (by simp)).call e0_hook e0_subs ?_
        rintro _ h' n' ⟨rfl, rfl, rfl⟩
        by_cases m1 : c ∈ [60, 62, 123, 125, 124, 94]
        · have hbad : iriB s = false := iriB_f fun h => by
            have := h.2.2.2 c hcm
            unfold badB at this
            rw [decide_eq_true m1] at this
            simp at this
          simp (maxSteps := 2000000) (disch := first | omega | assumption) only [↓mCode, ↓mOps, mAll, seval, vPtr, ite_ne, wrap_i64, boundN_int, fn44, Tryz.f44, List.map_nil, List.map_cons, r0, r3, hc, m1, decide_true]
          exact K _ _ _ ⟨by rw [hbad], G⟩
        · by_cases m2 : c = 34
          · have m2' : ((c : Int) = 34) = True := eq_true (by omega)
            have hbad : iriB s = false := iriB_f fun h => by have := h.2.2.2 c hcm; simp [badB, m2] at this
            simp (maxSteps := 2000000) (disch := first | omega | assumption) only [↓mCode, ↓mOps, mAll, seval, vPtr, ite_ne, wrap_i64, boundN_int, fn44, Tryz.f44, List.map_nil, List.map_cons, r0, r3, hc, m1, decide_false, m2']
            exact K _ _ _ ⟨by rw [hbad], G⟩
          · have m2' : ((c : Int) = 34) = False := eq_false (by omega)
            by_cases m3 : c = 92
            · have m3' : ((c : Int) = 92) = True := eq_true (by omega)
              have hbad : iriB s = false := iriB_f fun h => by have := h.2.2.2 c hcm; simp [badB, m3] at this
              simp (maxSteps := 2000000) (disch := first | omega | assumption) only [↓mCode, ↓mOps, mAll, seval, vPtr, ite_ne, wrap_i64, boundN_int, fn44, Tryz.f44, List.map_nil, List.map_cons, r0, r3, hc, m1, decide_false, m2', m3']
              exact K _ _ _ ⟨by rw [hbad], G⟩
            · have m3' : ((c : Int) = 92) = False := eq_false (by omega)
              by_cases m4 : c = 96
              · have m4' : ((c : Int) = 96) = True := eq_true (by omega)
                have hbad : iriB s = false := iriB_f fun h => by have := h.2.2.2 c hcm; simp [badB, m4] at this
                simp (maxSteps := 2000000) (disch := first | omega | assumption) only [↓mCode, ↓mOps, mAll, seval, vPtr, ite_ne, wrap_i64, boundN_int, fn44, Tryz.f44, List.map_nil, List.map_cons, r0, r3, hc, m1, decide_false, m2', m3', m4']
                exact K _ _ _ ⟨by rw [hbad], G⟩
              · have m4' : ((c : Int) = 96) = False := eq_false (by omega)
                have hgood : badB c = false := by
                  unfold badB
                  rw [decide_eq_false c2, decide_eq_false m1, decide_eq_false m2, decide_eq_false m3, decide_eq_false m4]; rfl
                simp (maxSteps := 2000000) (disch := first | omega | assumption) only [↓mCode, ↓mOps, mAll, seval, vPtr, ite_ne, wrap_i64, boundN_int, fn44, Tryz.f44, List.map_nil, List.map_cons, r0, r3, hc, m1, decide_false, m2', m3', m4']
                refine IH (s.length - (i + 1)) _ _ _ (by omega) ⟨i + 1, rfl, by omega, by simp only [mBase, Nat.reduceEqDiff, Nat.reduceSub, reduceIte, r0], by simp only [mBase, Nat.reduceEqDiff, Nat.reduceSub, reduceIte, r3] <;> rfl, fun j x hj hjx => ?_, rfl, rfl⟩
                by_cases e : j = i
                · subst e; rw [hc] at hjx; cases hjx; exact hgood
                · exact hx j x (by omega) hjx
    · have c1' : ¬ (i : Int) < (s.length : Int) := by omega
      simp (maxSteps := 2000000) (disch := first | omega | assumption) only [↓mCode, ↓mOps, mAll, seval, vPtr, ite_ne, wrap_i64, boundN_int, fn44, Tryz.f44, r0, r3, c1']
      refine K _ _ _ ⟨?_, G⟩
      rw [iriB_t ⟨by omega, by omega, hv, fun c hc => ?_⟩]
      obtain ⟨j, hj⟩ := List.mem_iff_getElem?.1 hc
      exact hx j c (by have := (List.getElem?_eq_some_iff.1 hj).1; omega) hj
  · simp (maxSteps := 2000000) (disch := first | omega | assumption) only [↓mCode, ↓mOps, mAll, seval, vPtr, ite_ne, wrap_i64, boundN_int, fn44, Tryz.f44, hv, Bool.not_false, decide_false]
    exact K _ _ _ ⟨by rw [iriB_f fun h => hv h.2.2.1], G⟩
end Go.Mir
namespace Go.Mir
open Go Go.Proofs
set_option maxRecDepth 4000
set_option maxHeartbeats 8000000

theorem idx_go (c : Nat) (kn : Out) (k : Nat → Out) : ∀ (l : List Nat) (i : Nat), (List.rec (motive := fun _ => Nat → Out) (fun _ => kn) (fun b _ ih i => Bool.rec (ih (Nat.succ i)) (k i) (Nat.beq b c)) l i : Out) = if c ∈ l then k (i + l.findIdx (· == c)) else kn
  | [], i => rfl
  | b :: l, i => by
    show (Bool.rec (motive := fun _ => Out) (List.rec (motive := fun _ => Nat → Out) (fun _ => kn) (fun b _ ih i => Bool.rec (ih (Nat.succ i)) (k i) (Nat.beq b c)) l (Nat.succ i)) (k i) (Nat.beq b c) : Out) = _
    rw [idx_go c kn k l (Nat.succ i)]
    by_cases e : b = c
    · subst e
      rw [Nat.beq_refl b, if_pos (List.mem_cons_self)]
      simp [List.findIdx_cons]
    · have e2 : Nat.beq b c = false := by
        cases hb : Nat.beq b c with
        | false => rfl
        | true => exact absurd (Nat.eq_of_beq_eq_true hb) e
      rw [e2]
      show (if c ∈ l then k (Nat.succ i + l.findIdx (· == c)) else kn) = _
      have hm : c ∈ b :: l ↔ c ∈ l := by simp [Ne.symm e]
      have hf : (b :: l).findIdx (· == c) = l.findIdx (· == c) + 1 := by
        rw [List.findIdx_cons]
        have : (b == c) = false := by simp [e]
        rw [this]; rfl
      by_cases q : c ∈ l
      · rw [if_pos q, if_pos (hm.2 q), hf]; congr 1; omega
      · rw [if_neg q, if_neg fun h => q (hm.1 h)]

noncomputable def idxZ (l : List Nat) (c : Nat) : Int := if c ∈ l then (l.findIdx (· == c) : Int) else -1
theorem idxZ_iff {l : List Nat} {c : Nat} : 0 ≤ idxZ l c ↔ c ∈ l := by
  unfold idxZ
  split
  · rename_i h; simp [h]
  · rename_i h; simp [h]

theorem extK_index {l : List Nat} {c : Nat} {h : T O} {n : Nat} {k : Kv} (hc : c < 256) : extK .indexByte [.str l, .int .u8 (c : Int)] h n k = k (.int .i64 (idxZ l c)) h n := by
  have e0 : Nat.ble c 255 = true := Nat.ble_eq_true_of_le (by omega)
  show need (Nat.ble c 255) (idxOf l c (k (.int .i64 (.negSucc 0)) h n) fun i => kN (fun v => k v h n) i) = _
  rw [e0]
  show idxOf l c (k (.int .i64 (.negSucc 0)) h n) (fun i => kN (fun v => k v h n) i) = _
  unfold idxOf
  rw [idx_go]
  unfold idxZ
  by_cases q : c ∈ l
  · rw [if_pos q, if_pos q, Nat.zero_add, kN_eq']
  · rw [if_neg q, if_neg q]; rfl

theorem index225_ok {l : List Nat} {c : Nat} {h : T O} {n : Nat} (hc : c < 256) : Fn env0 208 [.str l, .int .u8 (c : Int)] h n (fun v h' n' => v = .int .i64 (idxZ l c) ∧ h' = h ∧ n' = n) := by
  refine Fn.mk fn208 rfl fz208 (by simp) fun Q cs K => ?_
  have ex : ∀ {h : T O} {n : Nat} {k : Kv}, extK .indexByte [.str l, .int .u8 (c : Int)] h n k = k (.int .i64 (idxZ l c)) h n := extK_index hc
  simp (maxSteps := 2000000) (disch := first | omega | assumption) only [↓mCode, ↓mOps, mAll, seval, vPtr, ite_ne, wrap_i64, boundN_int, fn208, Tryz.f208, enterK_ext (E := env0) (f := 249) e0_hook fn249 e0_subs rfl e0_ext249, ex]
  exact K _ _ _ ⟨rfl, rfl, rfl⟩
theorem indexByte_ok {l : List Nat} {c : Nat} {h : T O} {n : Nat} (hc : c < 256) : Fn env0 154 [.str l, .int .u8 (c : Int)] h n (fun v h' n' => v = .int .i64 (idxZ l c) ∧ h' = h ∧ n' = n) := by
  refine Fn.mk fn154 rfl fz154 (by simp) fun Q cs K => ?_
  simp (maxSteps := 2000000) (disch := first | omega | assumption) only [↓mCode, ↓mOps, mAll, seval, vPtr, ite_ne, wrap_i64, boundN_int, fn154, Tryz.f154]
  refine (index225_ok hc).call e0_hook e0_subs ?_
  rintro _ _ _ ⟨rfl, rfl, rfl⟩
  simp (maxSteps := 2000000) (disch := first | omega | assumption) only [↓mCode, ↓mOps, mAll, seval, vPtr, ite_ne, wrap_i64, boundN_int, fn154, Tryz.f154]
  exact K _ _ _ ⟨rfl, rfl, rfl⟩
end Go.Mir
namespace Go.Mir
open Go Go.Proofs
set_option maxRecDepth 4000
set_option maxHeartbeats 8000000

theorem contR_bytes : ∀ (k : Nat) (t : List Nat) (r x : Nat), contR k t r = some x → ∀ c ∈ t.take k, c / 64 = 2
  | 0, _, _, _, _, c, hc => by simp at hc
  | _ + 1, [], _, _, h, _, _ => by cases h
  | k + 1, d :: t, r, x, h, c, hc => by
    simp only [contR] at h
    split at h
    · rename_i hd
      rw [List.take_succ_cons] at hc
      rcases List.mem_cons.1 hc with rfl | hc
      · exact hd
      · exact contR_bytes k t _ x h c hc
    · cases h

/-- a rune's bytes: itself, or none below 128 -/
theorem rune_bytes {s : List Nat} {r m : Nat} (h : getR s = some (r, m)) : (r < 128 → s.take m = [r]) ∧ (128 ≤ r → ∀ c ∈ s.take m, 128 ≤ c) := by
  cases s with
  | nil => cases h
  | cons d t =>
    obtain ⟨k, rfl⟩ : ∃ k, m = k + 1 := ⟨m - 1, by have := (getR_some h).1; omega⟩
    obtain ⟨r0, h1, h2, h3, h4⟩ := getR_iff.1 h
    rw [List.take_succ_cons]
    cases k with
    | zero =>
      have := headR_0.1 h1
      simp only [contR, Option.some.injEq] at h2
      have h5 := size_1.1 h4
      refine ⟨fun _ => ?_, fun hr => by omega⟩
      rw [List.take_zero]; congr 1; omega
    | succ k =>
      refine ⟨fun hr => ?_, fun _ c hc => ?_⟩
      · have := size_1.2 hr; omega
      · rcases List.mem_cons.1 hc with rfl | hc
        · unfold headR at h1
          repeat' split at h1
          all_goals first | (cases h1; omega) | cases h1
        · have := contR_bytes (k + 1) t r0 r h2 c hc; omega

theorem badB_high {c : Nat} (h : 128 ≤ c) : badB c = false := by
  unfold badB
  have h1 : ¬ c ≤ 32 := by omega
  have h2 : c ∉ [60, 62, 123, 125, 124, 94] := by simp; omega
  rw [decide_eq_false h1, decide_eq_false h2, decide_eq_false (by omega), decide_eq_false (by omega), decide_eq_false (by omega)]; rfl
theorem badB_iff {c : Nat} : badB c = true ↔ c ≤ 32 ∨ c ∈ [60, 62, 34, 123, 125, 124, 94, 96, 92] := by
  simp [badB]; omega

set_option maxHeartbeats 16000000 in
theorem iri_ok {s : List Nat} {h : T O} {n : Nat} (hb : ∀ c ∈ s, c < 256) (hl : s.length ≤ 4611686018427387903) : Fn env0 82 [.str s] h n (fun v h' n' => v = .bool (iriB s) ∧ Gro h n h' n') := by
  refine Fn.mk fn82 rfl fz82 (by simp) fun Q cs K => ?_
  by_cases l1 : s.length < 1
  · have l1' : ((s.length : Int) < 1) = True := eq_true (by omega)
    simp (maxSteps := 2000000) (disch := first | omega | assumption) only [↓mCode, ↓mOps, mAll, seval, vPtr, ite_ne, wrap_i64, boundN_int, fn82, Tryz.f82, l1']
    exact K _ _ _ ⟨by rw [iriB_f fun h => absurd h.1 (by omega)], ((Gro.refl h n).put _).set (by omega) _⟩
  have l1' : ((s.length : Int) < 1) = False := eq_false (by omega)
  by_cases l2 : s.length > 1000
  · have l2' : ((s.length : Int) > 1000) = True := eq_true (by omega)
    simp (maxSteps := 2000000) (disch := first | omega | assumption) only [↓mCode, ↓mOps, mAll, seval, vPtr, ite_ne, wrap_i64, boundN_int, fn82, Tryz.f82, l1', l2']
    exact K _ _ _ ⟨by rw [iriB_f fun h => absurd h.2.1 (by omega)], ((Gro.refl h n).put _).set (by omega) _⟩
  have l2' : ((s.length : Int) > 1000) = False := eq_false (by omega)
  simp (maxSteps := 2000000) (disch := first | omega | assumption) only [↓mCode, ↓mOps, mAll, seval, vPtr, ite_ne, wrap_i64, boundN_int, fn82, Tryz.f82, l1', l2']
  refine (valid_ok hb (by omega)).call e0_hook e0_subs ?_
  rintro _ h1 n1 ⟨rfl, G⟩
  have G1 : Gro h n h1 n1 := ⟨by have := G.1; omega, fun j hj => by rw [G.2 j (by omega), T.get_put, if_neg (by omega)]⟩
  have gn : h1.get n = some (.cells (ofT [V.bool false]) 1 1) := by rw [G.2 n (by omega), T.get_put, if_pos rfl]
  have nn1 : n < n1 := by have := G.1; omega
  by_cases hv : endR s = s.length
  · simp (maxSteps := 2000000) (disch := first | omega | assumption) only [↓mCode, ↓mOps, mAll, seval, vPtr, ite_ne, wrap_i64, boundN_int, fn82, Tryz.f82, hv, Bool.not_true, decide_true]
    refine runes_ok.call e0_hook e0_subs ?_
    rintro _ _ _ ⟨rfl, rfl, rfl⟩
    simp (maxSteps := 2000000) (disch := first | omega | assumption) only [↓mCode, ↓mOps, mAll, seval, vPtr, ite_ne, wrap_i64, boundN_int, fn82, Tryz.f82, ↓mRound, mRoundV]
    refine range223 hb hl (fun p h' n' => h'.get (n1 + 1 + 1) = some ?O0 ∧ h'.get n1 = some (.cells (ofT [.str s]) 1 1) ∧ h'.get (n1 + 1) = some .deferred ∧
      (∃ t, h'.get n = some (.cells t 1 1)) ∧ (∀ c ∈ s.take p, badB c = false) ∧ p + endR (s.drop p) = s.length ∧ n' = n1 + 1 + 1 + 1 ∧ ∀ j, j < n → h'.get j = h.get j)
      (fun h' n' => iriB s = false ∧ h'.get (n1 + 1 + 1) = some ?O1 ∧ h'.get (n1 + 1) = some .deferred ∧ (∃ t, h'.get n = some (.cells t 1 1) ∧ t.get 0 = some (.bool false)) ∧ n' = n1 + 1 + 1 + 1 ∧ ∀ j, j < n → h'.get j = h.get j) ?gC ?gY ?gE ?gS ?gI
    case gI =>
      refine ⟨by rw [T.get_put, if_pos rfl], ?_, ?_, ⟨ofT [V.bool false], ?_⟩, ?_, ?_, ?_, ?_⟩
      · rw [T.get_put, if_neg (by omega), T.get_put, if_neg (by omega), T.get_put, if_pos rfl]
      · rw [T.get_put, if_neg (by omega), T.get_put, if_pos rfl]
      · rw [T.get_put, if_neg (by omega), T.get_put, if_neg (by omega), T.get_put, if_neg (by omega)]; exact gn
      · simp
      · simpa using hv
      · rfl
      · intro j hj
        rw [T.get_put, if_neg (by omega), T.get_put, if_neg (by omega), T.get_put, if_neg (by omega)]; exact G1.2 j hj
    case gC =>
      rintro p h' n' ⟨i1, i2, _⟩ k
      rw [cellAt_eq, i2]; rfl
    case gY =>
      rintro p r m h' n' F hg ⟨i1, i2, i3, ⟨t, i4⟩, i5, i6, rfl, i7⟩ k1 k2
      have hrb := rune_bytes hg
      have hm := getR_some hg
      have hsub : ∀ c ∈ (s.drop p).take m, c ∈ s := fun c hc => List.mem_of_mem_drop (List.mem_of_mem_take hc)
      have hnext : (∀ c ∈ (s.drop p).take m, badB c = false) → ∀ c ∈ s.take (p + m), badB c = false := fun hgood c hc => by
        rw [List.take_add] at hc
        exact (List.mem_append.1 hc).elim (i5 c) (hgood c)
      have i6' : p + m + endR (s.drop (p + m)) = s.length := by rw [← i6, endR_some hg, List.drop_drop]; omega
      by_cases r1 : r ≤ 32
      · have r1' : ((r : Int) ≤ 32) = True := eq_true (by omega)
        have hbad : iriB s = false := iriB_f fun h => by
          have := h.2.2.2 r (hsub r (by rw [hrb.1 (by omega)]; simp))
          rw [badB_iff.2 (.inl r1)] at this; cases this
        simp (maxSteps := 2000000) (disch := first | omega | assumption) only [↓mCode, ↓mOps, mAll, seval, vPtr, ite_ne, wrap_i64, boundN_int, fn82, Tryz.f82, ↓mRound, mRoundV, i1, i4, r1']
        refine k2 _ _ ⟨hbad, by rw [T.get_put, if_pos rfl], ?_, ⟨_, by rw [T.get_put, if_neg (by omega), T.get_put, if_pos rfl], by rw [T.get_put, if_pos rfl]⟩, rfl, fun j hj => ?_⟩
        · rw [T.get_put, if_neg (by omega), T.get_put, if_neg (by omega), T.get_put, if_neg (by omega)]; exact i3
        · rw [T.get_put, if_neg (by omega), T.get_put, if_neg (by omega), T.get_put, if_neg (by omega)]; exact i7 j hj
      · have r1' : ((r : Int) ≤ 32) = False := eq_false (by omega)
        by_cases r2 : r < 128
        · have r2' : ((r : Int) < 128) = True := eq_true (by omega)
          have cv : ∀ {k : V → Out}, convInt .u8 (r : Int) k = k (.int .u8 (r : Int)) := convInt_u8 (by omega)
          simp (maxSteps := 2000000) (disch := first | omega | assumption) only [↓mCode, ↓mOps, mAll, seval, vPtr, ite_ne, wrap_i64, boundN_int, fn82, Tryz.f82, ↓mRound, mRoundV, i1, i4, tb5', convK_35, List.map_nil, List.map_cons, cv, r1', r2']
          refine (indexByte_ok (by omega)).call e0_hook e0_subs ?_
          rintro _ h2 n2 ⟨rfl, rfl, rfl⟩
          by_cases q : r ∈ [60, 62, 34, 123, 125, 124, 94, 96, 92]
          · have z : ((0 : Int) ≤ idxZ [60, 62, 34, 123, 125, 124, 94, 96, 92] r) = True := eq_true (idxZ_iff.2 q)
            have hbad : iriB s = false := iriB_f fun h => by
              have := h.2.2.2 r (hsub r (by rw [hrb.1 r2]; simp))
              rw [badB_iff.2 (.inr q)] at this; cases this
            simp (maxSteps := 2000000) (disch := first | omega | assumption) only [↓mCode, ↓mOps, mAll, seval, vPtr, ite_ne, wrap_i64, boundN_int, fn82, Tryz.f82, ↓mRound, mRoundV, i1, i4, z]
            refine k2 _ _ ⟨hbad, by rw [T.get_put, if_pos rfl], ?_, ⟨_, by rw [T.get_put, if_neg (by omega), T.get_put, if_pos rfl], by rw [T.get_put, if_pos rfl]⟩, rfl, fun j hj => ?_⟩
            · rw [T.get_put, if_neg (by omega), T.get_put, if_neg (by omega), T.get_put, if_neg (by omega)]; exact i3
            · rw [T.get_put, if_neg (by omega), T.get_put, if_neg (by omega), T.get_put, if_neg (by omega)]; exact i7 j hj
          · have z : ((0 : Int) ≤ idxZ [60, 62, 34, 123, 125, 124, 94, 96, 92] r) = False := eq_false fun h => q (idxZ_iff.1 h)
            have HG : ∀ c ∈ (s.drop p).take m, badB c = false := fun c hc => by
              rw [hrb.1 r2] at hc
              obtain rfl := List.mem_singleton.1 hc
              cases e : badB c with
              | false => rfl
              | true => rcases badB_iff.1 e with h | h
                        · omega
                        · exact absurd h q
            simp (maxSteps := 2000000) (disch := first | omega | assumption) only [↓mCode, ↓mOps, mAll, seval, vPtr, ite_ne, wrap_i64, boundN_int, fn82, Tryz.f82, ↓mRound, mRoundV, i1, i4, z]
            refine k1 _ _ ⟨by rw [T.get_put, if_pos rfl], ?_, ?_, ⟨t, ?_⟩, hnext HG, i6', rfl, fun j hj => ?_⟩
            · rw [T.get_put, if_neg (by omega), T.get_put, if_neg (by omega)]; exact i2
            · rw [T.get_put, if_neg (by omega), T.get_put, if_neg (by omega)]; exact i3
            · rw [T.get_put, if_neg (by omega), T.get_put, if_neg (by omega)]; exact i4
            · rw [T.get_put, if_neg (by omega), T.get_put, if_neg (by omega)]; exact i7 j hj
        · have r2' : ((r : Int) < 128) = False := eq_false (by omega)
          have HG : ∀ c ∈ (s.drop p).take m, badB c = false := fun c hc => badB_high (hrb.2 (by omega) c hc)
          simp (maxSteps := 2000000) (disch := first | omega | assumption) only [↓mCode, ↓mOps, mAll, seval, vPtr, ite_ne, wrap_i64, boundN_int, fn82, Tryz.f82, ↓mRound, mRoundV, i1, i4, r1', r2']
          refine k1 _ _ ⟨by rw [T.get_put, if_pos rfl], ?_, ?_, ⟨t, ?_⟩, hnext HG, i6', rfl, fun j hj => ?_⟩
          · rw [T.get_put, if_neg (by omega), T.get_put, if_neg (by omega)]; exact i2
          · rw [T.get_put, if_neg (by omega), T.get_put, if_neg (by omega)]; exact i3
          · rw [T.get_put, if_neg (by omega), T.get_put, if_neg (by omega)]; exact i4
          · rw [T.get_put, if_neg (by omega), T.get_put, if_neg (by omega)]; exact i7 j hj
    case gE =>
      rintro p h' n' hp hg ⟨i1, i2, i3, ⟨t, i4⟩, i5, i6, rfl, i7⟩
      have hpe : p = s.length := by rw [endR_none hg] at i6; omega
      have hgood : iriB s = true := iriB_t ⟨by omega, by omega, hv, by rw [hpe, List.take_length] at i5; exact i5⟩
      have i3' : ∀ {o : O}, (h'.put (n1 + 1 + 1) (some o)).get (n1 + 1) = some .deferred := fun {o} => by rw [T.get_put, if_neg (by omega)]; exact i3
      simp (maxSteps := 2000000) (disch := first | omega | assumption) only [↓mCode, ↓mOps, mAll, seval, vPtr, ite_ne, wrap_i64, boundN_int, fn82, Tryz.f82, ↓mRound, mRoundV, i1, i4, i3]
      refine K _ _ (n1 + 1 + 1 + 1) ⟨by rw [hgood], by omega, fun j hj => ?_⟩
      simp only [T.get_put]
      repeat rw [if_neg (by omega)]
      exact i7 j hj
    case gS =>
      rintro h' n' ⟨hbad, i1, i3, ⟨t, i4, i5⟩, rfl, i7⟩
      have hce : ∀ {k : V → Out}, cellAt h' n 0 k = k (.bool false) := fun {k} => by
        rw [cellAt_eq, i4]
        show om (t.get 0) k = _
        rw [i5]; rfl
      simp (maxSteps := 2000000) (disch := first | omega | assumption) only [↓mCode, ↓mOps, mAll, seval, vPtr, ite_ne, wrap_i64, boundN_int, fn82, Tryz.f82, ↓mRound, mRoundV, i1, i3, hce]
      refine K _ _ (n1 + 1 + 1 + 1) ⟨by rw [hbad], by omega, fun j hj => ?_⟩
      simp only [T.get_put]
      repeat rw [if_neg (by omega)]
      exact i7 j hj
  · simp (maxSteps := 2000000) (disch := first | omega | assumption) only [↓mCode, ↓mOps, mAll, seval, vPtr, ite_ne, wrap_i64, boundN_int, fn82, Tryz.f82, hv, gn, Bool.not_false, decide_false]
    exact K _ _ _ ⟨by rw [iriB_f fun h => hv h.2.2.1], G1.set (by omega) _⟩
end Go.Mir
