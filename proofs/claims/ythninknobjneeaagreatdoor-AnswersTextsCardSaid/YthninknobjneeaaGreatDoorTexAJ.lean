/- Walks: may a question be (the reference)? -/
import Derived.Test.YthninknobjneeaaGreatDoorTexAI
import Derived.Test.YthninknobjneeaaGreatDoorTexAG
set_option linter.unusedSimpArgs false
set_option linter.unusedVariables false
namespace Go.Mir
open Go Go.Proofs
set_option maxRecDepth 4000
set_option maxHeartbeats 32000000

theorem nbeqS {a : Nat} : Nat.beq a a = true := Nat.beq_refl a
theorem sl_sameB {h : T O} {e : Nat} {g : Nat → V} {v : V} {L : Nat} (S : Sl h e g v L) : sameB v v = true := by
  cases S with
  | nil a =>
    cases a with
    | none => rfl
    | some a => exact @decide_eq_true _ (Classical.propDecidable _) ⟨rfl, rfl, rfl⟩
  | tail => simp only [Mir.sameB, nbeqS, Bool.and_self]
  | slice id off len ex k lo => cases ex <;> simp only [Mir.sameB, nbeqS, Bool.and_self, Bool.not_false]
theorem sl_same {h : T O} {e : Nat} {g : Nat → V} {v : V} {L : Nat} (S : Sl h e g v L) {k : Out} : need (sameV v v) k = k := by
  have : sameV v v = true := by
    have h := sl_sameB S
    cases S <;> exact h
  rw [this]; rfl

/- a row of parts of the run's own making -/
def litsC (l : List LitT) : List V := l.flatMap litC
theorem litsC_len : ∀ {l : List LitT}, (litsC l).length = l.length * 21
  | [] => rfl
  | x :: l => by
    show (litC x ++ litsC l).length = _
    rw [List.length_append, litC_len, litsC_len, List.length_cons]; omega
theorem litsC_get : ∀ {l : List LitT} {j : Nat}, j < l.length * 21 → (litsC l)[j]? = some (litG l j)
  | [], j, h => by simp at h
  | x :: l, j, h => by
    show (litC x ++ litsC l)[j]? = _
    rw [List.length_cons] at h
    by_cases h1 : j < 21
    · rw [List.getElem?_append_left (by rw [litC_len]; exact h1)]
      unfold litG
      rw [show j / 21 = 0 by omega, show j % 21 = j by omega, List.getD_eq_getElem?_getD]
      show _ = some ((litC x)[j]?.getD (.bool false))
      rw [List.getElem?_eq_getElem (by rw [litC_len]; exact h1)]; rfl
    · rw [List.getElem?_append_right (by rw [litC_len]; omega), litC_len, litsC_get (by omega)]
      unfold litG
      rw [show j / 21 = (j - 21) / 21 + 1 by omega, show j % 21 = (j - 21) % 21 by omega]; rfl
theorem allOne_append : ∀ {a b : List V}, allOne a = true → allOne b = true → allOne (a ++ b) = true
  | [], _, _, h => h
  | x :: a, b, h1, h2 => by
    have h1 : and (oneV x) (allOne a) = true := h1
    have h3 : oneV x = true ∧ allOne a = true := by simpa using h1
    show and (oneV x) (allOne (a ++ b)) = true
    rw [h3.1, allOne_append h3.2 h2]; rfl
theorem allOne_lits : ∀ {l : List LitT}, allOne (litsC l) = true
  | [] => rfl
  | x :: l => allOne_append (a := litC x) allOne_lit allOne_lits
theorem src34 {id off len kk lo : Nat} {ex : Bool} : srcTy tys 23 (.slice id off len ex kk lo) = true := (by kernel_rfl : srcTy tys 23 (.slice 0 0 0 true 0 0) = true)

def LBuf (h : T O) (n n0 : Nat) (v : V) (l : List LitT) : Prop :=
  n0 ≤ n ∧ ((v = .base (.slice none 0 0) ∧ l = []) ∨ ∃ id, v = .slice id 0 l.length false 0 l.length ∧ h.get id = some (.cells (ofT (litsC l)) (l.length * 21) 21) ∧ n0 ≤ id ∧ id < n)
theorem LBuf.nil {h : T O} {n n0 : Nat} (hn : n0 ≤ n) : LBuf h n n0 (.base (.slice none 0 0)) [] := ⟨hn, .inl ⟨rfl, rfl⟩⟩
theorem LBuf.ext {h h' : T O} {n n' n0 : Nat} {v : V} {l : List LitT} (B : LBuf h n n0 v l) (G : Gro h n h' n') : LBuf h' n' n0 v l := by
  obtain ⟨h0, B⟩ := B
  refine ⟨Nat.le_trans h0 G.1, ?_⟩
  rcases B with ⟨e1, e2⟩ | ⟨id, e1, hg, h1, h2⟩
  · exact .inl ⟨e1, e2⟩
  · exact .inr ⟨id, e1, by rw [G.2 id h2, hg], h1, Nat.lt_of_lt_of_le h2 G.1⟩
theorem LBuf.lits {h : T O} {n n0 : Nat} {v : V} {l : List LitT} (B : LBuf h n n0 v l) : LitIn h n v l := by
  obtain ⟨h0, B⟩ := B
  rcases B with ⟨rfl, rfl⟩ | ⟨id, rfl, hg, h1, h2⟩
  · exact ⟨.nil none, fun i hi => by cases hi⟩
  · refine ⟨.slice _ _ _ _ _ _ (Nat.le_refl _) ⟨_, _, _, _, hg, .inl rfl, by omega, fun j hj => ?_⟩, fun i hi => by cases hi; exact h2⟩
    rw [Nat.zero_add, ofT_get, litsC_get hj]
theorem LBuf.app {h : T O} {n n0 : Nat} {v : V} {l : List LitT} {x : LitT} (B : LBuf h n n0 v l) (hl : l.length + 1 ≤ 1000000) :
    ∃ v' h', (∀ {k : Kv}, appendK tys (h.put n (some (.cells (ofT (litC x)) 21 21))) (n + 1) 23 v (.slice n 0 1 true 1 1) k = k v' h' (n + 1 + 1)) ∧ LBuf h' (n + 1 + 1) n0 v' (l ++ [x]) ∧ ∀ j, j < n0 → h'.get j = h.get j := by
  obtain ⟨h0, B⟩ := B
  have gn : (h.put n (some (.cells (ofT (litC x)) 21 21))).get n = some (.cells (ofT (litC x)) 21 21) := by rw [T.get_put, if_pos rfl]
  have e2 : ∀ {kk : List V → Out}, cellsAt (h.put n (some (.cells (ofT (litC x)) 21 21))) n 0 (1 * 21) kk = kk (litC x) := fun {kk} => cells_of gn rfl
  have one : litsC [x] = litC x := by show litC x ++ [] = _; rw [List.append_nil]
  rcases B with ⟨rfl, rfl⟩ | ⟨id, rfl, hg, h1, h2⟩
  · refine ⟨.slice (n + 1) 0 1 false 0 1, (h.put n (some (.cells (ofT (litC x)) 21 21))).put (n + 1) (some (.cells (ofT (litC x)) 21 21)), ?_, ⟨by omega, .inr ⟨n + 1, rfl, ?_, by omega, by omega⟩⟩, ?_⟩
    · intro k
      rw [appendK_base, sliceTy_eq, ty23, om_some, slTy_slice, ty67, om_some, srcK_slice, e2, app0_nil, need_and, need_beq rfl, need_beq rfl, if_neg (by omega), growK_eq, need_ble (by omega)]; rfl
    · rw [T.get_put, if_pos rfl, List.nil_append, one]; rfl
    · intro j hj
      rw [T.get_put, if_neg (by omega), T.get_put, if_neg (by omega)]
  · have c2 : (l.length + 1 ≤ l.length) = False := eq_false (by omega)
    have gid : (h.put n (some (.cells (ofT (litC x)) 21 21))).get id = some (.cells (ofT (litsC l)) (l.length * 21) 21) := by rw [T.get_put, if_neg (by omega), hg]
    have e1 : ∀ {kk : List V → Out}, cellsAt (h.put n (some (.cells (ofT (litC x)) 21 21))) id 0 (l.length * 21) kk = kk (litsC l) := fun {kk} => cells_of gid litsC_len
    have eM : litsC l ++ litC x = litsC (l ++ [x]) := by unfold litsC; rw [List.flatMap_append]; congr 1
    have a1 : allOne (litsC l ++ litC x) = true := by rw [eM]; exact allOne_lits
    refine ⟨.slice (n + 1) 0 (l.length + 1) false 0 (l.length + 1), ((h.put n (some (.cells (ofT (litC x)) 21 21))).put id none).put (n + 1) (some (.cells (ofT (litsC l ++ litC x)) (litsC l ++ litC x).length 21)), ?_, ?_, ?_⟩
    · intro k
      rw [appendK_slice, sliceTy_eq, ty23, om_some, slTy_slice, ty67, om_some, srcK_slice, e2, app1_eq]
      simp only [c2, if_false]
      rw [e1]
      show app2 _ _ _ _ _ _ _ _ _ = _
      rw [app2_eq, gid, om_some, oCells_cells, need_and, need_and, need_beq rfl, need_beq rfl, a1]
      show growK _ _ _ _ _ _ = _
      rw [growK_eq, need_ble (by omega)]
    · rw [eM, litsC_len]
      refine ⟨by omega, .inr ⟨n + 1, by simp, by rw [T.get_put, if_pos rfl], by omega, by omega⟩⟩
    · intro j hj
      rw [T.get_put, if_neg (by omega), T.get_put, if_neg (by omega), T.get_put, if_neg (by omega)]

theorem slice_to {id off len kk lo j : Nat} {ex : Bool} {k : V → Out} (hj : j ≤ lo) : sliceK tys 22 (.slice id off len ex kk lo) none (some (.int .i64 (j : Int))) none k = k (.slice id off j ex kk lo) := by
  rw [sliceK_eq, ty22, om_some, slIn_slice, sliceSl_eq, ty9, om_some, boundN_none, boundN_int (by omega), Int.toNat_natCast, need_and, need_ble (by omega), need_ble hj, sliceSl2_eq]
  cases ex with
  | true => simp
  | false => simp

theorem mayQ37_ok {h : T O} {n : Nat} {vv vb : V} {ask dist : Bool} {vars : List (List Nat)} {body : List LitT} (Rv : StrIn h n vv vars) (Rb : LitIn h n vb body) (gb : ∀ i, i < body.length → GdL (body.getD i zLit)) :
    Fn env0 19 [.agg [.bool ask, .bool dist, vv, vb]] h n (fun u h' n' => u = .bool (mayQ ask dist vars body) ∧ Gro h n h' n') := by
  refine Fn.mk fn19 rfl fz19 (by simp) fun Q cs K => ?_
  have lenB : ∀ {hh : T O} {e : Nat} {k : V → Out}, lenIn hh (.slice e) vb k = k (.int .i64 (body.length : Int)) := Rb.1.lenA
  have lenV : ∀ {hh : T O} {e : Nat} {k : V → Out}, lenIn hh (.slice e) vv k = k (.int .i64 (vars.length : Int)) := Rv.1.lenA
  generalize hhB : h.put n (some (.cells (ofT [V.bool ask, V.bool dist, vv, vb]) 4 4)) = hB
  have GB : Gro h n hB (n + 1) := by rw [← hhB]; exact (Gro.refl h n).put _
  have gn : hB.get n = some (.cells (ofT [V.bool ask, V.bool dist, vv, vb]) 4 4) := by rw [← hhB, T.get_put, if_pos rfl]
  have f0 : ∀ {kk : V → Out}, cellAt hB n 0 kk = kk (.bool ask) := fun {kk} => cell_of gn (by omega) rfl
  have f1 : ∀ {kk : V → Out}, cellAt hB n 1 kk = kk (.bool dist) := fun {kk} => cell_of gn (by omega) rfl
  have f2 : ∀ {kk : V → Out}, cellAt hB n 2 kk = kk vv := fun {kk} => cell_of gn (by omega) rfl
  have f3 : ∀ {kk : V → Out}, cellAt hB n 3 kk = kk vb := fun {kk} => cell_of gn (by omega) rfl
  refine' (fun rest : (∀ rg : T V, rg.get 1 = some (.ptr n 0) → rg.get 3 = some (.base (.slice none 0 0)) → rg.get 4 = some (.int .i64 ((0 : Nat) : Int)) → 1 ≤ body.length → body.length ≤ 64 → vars.length ≤ 32 → ask ≠ decide (0 < vars.length) → ¬ (ask = true ∧ dist = true) →
      W env0 Q (fun go => go ⟨19, 131, [], none⟩ rg _ cs hB (n + 1))) => ?_) ?_
  rotate_left
  · by_cases a1 : body.length < 1
    · have p1 : ((body.length : Int) < 1) = True := eq_true (by omega)
      simp (maxSteps := 2000000) (disch := first | omega | assumption) only [↓mCode, ↓mOps, mAll, seval, vPtr, ite_ne, wrap_i64, boundN_int, fn19, Tryz.f19, mLit, eq_self, decide_true, decide_false, Bool.not_true, Bool.not_false, lenB, lenV, hhB, f0, f1, f2, f3, p1]
      exact K _ _ _ ⟨by rw [mayQ_f fun o => by have := o.1; omega], GB⟩
    have p1 : ((body.length : Int) < 1) = False := eq_false (by omega)
    by_cases a2 : 64 < body.length
    · have p2 : ((64 : Int) < (body.length : Int)) = True := eq_true (by omega)
      simp (maxSteps := 2000000) (disch := first | omega | assumption) only [↓mCode, ↓mOps, mAll, seval, vPtr, ite_ne, wrap_i64, boundN_int, fn19, Tryz.f19, mLit, eq_self, decide_true, decide_false, Bool.not_true, Bool.not_false, lenB, lenV, hhB, f0, f1, f2, f3, p1, p2]
      exact K _ _ _ ⟨by rw [mayQ_f fun o => by have := o.2.1; omega], GB⟩
    have p2 : ((64 : Int) < (body.length : Int)) = False := eq_false (by omega)
    by_cases a3 : 32 < vars.length
    · have p3 : ((32 : Int) < (vars.length : Int)) = True := eq_true (by omega)
      simp (maxSteps := 2000000) (disch := first | omega | assumption) only [↓mCode, ↓mOps, mAll, seval, vPtr, ite_ne, wrap_i64, boundN_int, fn19, Tryz.f19, mLit, eq_self, decide_true, decide_false, Bool.not_true, Bool.not_false, lenB, lenV, hhB, f0, f1, f2, f3, p1, p2, p3]
      exact K _ _ _ ⟨by rw [mayQ_f fun o => by have := o.2.2.1; omega], GB⟩
    have p3 : ((32 : Int) < (vars.length : Int)) = False := eq_false (by omega)
    cases ask with
    | true =>
      by_cases a4 : 0 < vars.length
      · have p4 : ((0 : Int) < (vars.length : Int)) = True := eq_true (by omega)
        simp (maxSteps := 2000000) (disch := first | omega | assumption) only [↓mCode, ↓mOps, mAll, seval, vPtr, ite_ne, wrap_i64, boundN_int, fn19, Tryz.f19, mLit, eq_self, decide_true, decide_false, Bool.not_true, Bool.not_false, lenB, lenV, hhB, f0, f1, f2, f3, p1, p2, p3, p4]
        exact K _ _ _ ⟨by rw [mayQ_f fun o => o.2.2.2.1 (by simp [a4])], GB⟩
      have p4 : ((0 : Int) < (vars.length : Int)) = False := eq_false (by omega)
      cases dist with
      | true =>
        simp (maxSteps := 2000000) (disch := first | omega | assumption) only [↓mCode, ↓mOps, mAll, seval, vPtr, ite_ne, wrap_i64, boundN_int, fn19, Tryz.f19, mLit, eq_self, decide_true, decide_false, Bool.not_true, Bool.not_false, lenB, lenV, hhB, f0, f1, f2, f3, p1, p2, p3, p4]
        exact K _ _ _ ⟨by rw [mayQ_f fun o => o.2.2.2.2.1 ⟨rfl, rfl⟩], GB⟩
      | false =>
        simp (maxSteps := 2000000) (disch := first | omega | assumption) only [↓mCode, ↓mOps, mAll, seval, vPtr, ite_ne, wrap_i64, boundN_int, fn19, Tryz.f19, mLit, eq_self, decide_true, decide_false, Bool.not_true, Bool.not_false, lenB, lenV, hhB, f0, f1, f2, f3, p1, p2, p3, p4]
        refine rest _ ?_ ?_ ?_ (by omega) (by omega) (by omega) (by simp [a4]) (by simp)
        iterate 3
          · simp only [mBase, Nat.reduceEqDiff, Nat.reduceSub, reduceIte] <;> rfl
    | false =>
      by_cases a4 : 0 < vars.length
      · have p5 : ((vars.length : Int) = 0) = False := eq_false (by omega)
        simp (maxSteps := 2000000) (disch := first | omega | assumption) only [↓mCode, ↓mOps, mAll, seval, vPtr, ite_ne, wrap_i64, boundN_int, fn19, Tryz.f19, mLit, eq_self, decide_true, decide_false, Bool.not_true, Bool.not_false, lenB, lenV, hhB, f0, f1, f2, f3, p1, p2, p3, p5]
        refine rest _ ?_ ?_ ?_ (by omega) (by omega) (by omega) (by simp [a4]) (by simp)
        iterate 3
          · simp only [mBase, Nat.reduceEqDiff, Nat.reduceSub, reduceIte] <;> rfl
      · have p5 : ((vars.length : Int) = 0) = True := eq_true (by omega)
        simp (maxSteps := 2000000) (disch := first | omega | assumption) only [↓mCode, ↓mOps, mAll, seval, vPtr, ite_ne, wrap_i64, boundN_int, fn19, Tryz.f19, mLit, eq_self, decide_true, decide_false, Bool.not_true, Bool.not_false, lenB, lenV, hhB, f0, f1, f2, f3, p1, p2, p3, p5]
        exact K _ _ _ ⟨by rw [mayQ_f fun o => o.2.2.2.1 (by simp [a4])], GB⟩
  · intro rg0 b1 b3 b4 a1 a2 a3 HQ1 HQ2
    refine W_loopE (fun q regs h1 n1 => ∃ (i : Nat) (u : V), q = body.length - i ∧ i ≤ body.length ∧ regs.get 1 = some (.ptr n 0) ∧ regs.get 3 = some u ∧ regs.get 4 = some (.int .i64 (i : Int)) ∧
        (∀ j, j < i → (body.getD j zLit).1 ≠ 2 ∧ mayL (body.getD j zLit) = true) ∧ LBuf h1 n1 (n + 1) u (holds (body.take i)) ∧ Gro hB (n + 1) h1 n1)
      (fun regs h1 n1 => ∃ u : V, regs.get 1 = some (.ptr n 0) ∧ regs.get 3 = some u ∧ (∀ j, j < body.length → (body.getD j zLit).1 ≠ 2 ∧ mayL (body.getD j zLit) = true) ∧ LBuf h1 n1 (n + 1) u (holds body) ∧ Gro hB (n + 1) h1 n1)
      _ ⟨0, .base (.slice none 0 0), rfl, by omega, ?_, ?_, ?_, fun j hj => absurd hj (by omega), LBuf.nil (Nat.le_refl _), Gro.refl _ _⟩ ?_ ?_
    · exact b1
    · exact b3
    · exact b4
    · rintro tt hexit q regs h1 n1 ⟨i, u, rfl, hi, r1, r3, r4, hok, B, G⟩ IH
      have gn1 : h1.get n = some (.cells (ofT [V.bool ask, V.bool dist, vv, vb]) 4 4) := by rw [G.2 n (by omega)]; exact gn
      have b3 : ∀ {kk : V → Out}, cellAt h1 n 3 kk = kk vb := fun {kk} => cell_of gn1 (by omega) rfl
      by_cases c1 : i < body.length
      · have c1' : ((i : Int) < (body.length : Int)) = True := eq_true (by omega)
        have G0 : Gro h n h1 n1 := GB.trans G
        have gx := gb i c1
        have hs := holds_snoc c1
        have hlen : (holds (body.take i)).length ≤ 64 := Nat.le_trans (List.length_filter_le _ _) (by rw [List.length_take]; omega)
        obtain ⟨id, off, ex, k, lo, rfl, hlo, hid, La⟩ := (Rb.ext G0).get c1
        have hidn : id < n := Rb.2 id rfl
        have hne : (body.getD i zLit).1 = 2 ∨ mayL (body.getD i zLit) = false → ¬ OkQ ask dist vars body := fun z o => by
          have := o.2.2.2.2.2.1 i c1
          rcases z with z | z
          · exact this.1 z
          · rw [this.2] at z; cases z
        have hyes : (body.getD i zLit).1 ≠ 2 → mayL (body.getD i zLit) = true → ∀ j, j < i + 1 → (body.getD j zLit).1 ≠ 2 ∧ mayL (body.getD j zLit) = true := fun z1 z2 j hj => by
          by_cases e : j = i
          · subst e; exact ⟨z1, z2⟩
          · exact hok j (by omega)
        generalize body.getD i zLit = x at *
        have cX : ∀ {kk : List V → Out}, cellsAt h1 id (off + i * 21) 21 kk = kk (litC x) := fun {kk} => (La.cells (p := 0) (m := 21) (by omega) rfl).trans rfl
        have cK : ∀ {kk : V → Out}, cellAt h1 id (off + i * 21) kk = kk (.int .i64 x.1) := fun {kk} => La.cell (p := 0) (by omega) rfl rfl
        by_cases z : x.1 = 2
        · have z' : (x.1 = 2) = True := eq_true z
          simp (maxSteps := 2000000) (disch := first | omega | assumption) only [↓mCode, ↓mOps, mAll, seval, vPtr, ite_ne, wrap_i64, boundN_int, fn19, Tryz.f19, mLit, eq_self, decide_true, decide_false, Bool.not_true, Bool.not_false, lenB, lenV, r1, r3, r4, b3, c1', ↓cX, ↓cK, z']
          exact K _ _ _ ⟨by rw [mayQ_f (hne (.inl z))], G0⟩
        have z' : (x.1 = 2) = False := eq_false z
        simp (maxSteps := 2000000) (disch := first | omega | assumption) only [↓mCode, ↓mOps, mAll, seval, vPtr, ite_ne, wrap_i64, boundN_int, fn19, Tryz.f19, mLit, eq_self, decide_true, decide_false, Bool.not_true, Bool.not_false, lenB, lenV, r1, r3, r4, b3, c1', ↓cX, ↓cK, z']
        refine (part02_ok gx).call e0_hook e0_subs ?_
        rintro _ h2 n2 ⟨rfl, G2⟩
        have G3 : Gro hB (n + 1) h2 n2 := G.trans G2
        cases b : mayL x with
        | false =>
          simp (maxSteps := 2000000) (disch := first | omega | assumption) only [↓mCode, ↓mOps, mAll, seval, vPtr, ite_ne, wrap_i64, boundN_int, fn19, Tryz.f19, mLit, eq_self, decide_true, decide_false, Bool.not_true, Bool.not_false, lenB, lenV, r1, r3, r4]
          exact K _ _ _ ⟨by rw [mayQ_f (hne (.inr b))], GB.trans G3⟩
        | true =>
          have gn2 : h2.get n = some (.cells (ofT [V.bool ask, V.bool dist, vv, .slice id off body.length ex k lo]) 4 4) := by rw [G2.2 n (by have := G.1; omega)]; exact gn1
          have b4 : ∀ {kk : V → Out}, cellAt h2 n 3 kk = kk (.slice id off body.length ex k lo) := fun {kk} => cell_of gn2 (by omega) rfl
          have La2 := La.keep (G2.2 id hid)
          have cX2 : ∀ {kk : List V → Out}, cellsAt h2 id (off + i * 21) 21 kk = kk (litC x) := fun {kk} => (La2.cells (p := 0) (m := 21) (by omega) rfl).trans rfl
          have cK2 : ∀ {kk : V → Out}, cellAt h2 id (off + i * 21) kk = kk (.int .i64 x.1) := fun {kk} => La2.cell (p := 0) (by omega) rfl rfl
          by_cases y : x.1 = 1
          · have y' : (x.1 = 1) = True := eq_true y
            rw [if_pos y] at hs
            obtain ⟨v3, h3, ap, B3, k3⟩ := (B.ext G2).app (x := x) (by omega)
            simp (maxSteps := 2000000) (disch := first | omega | assumption) only [↓mCode, ↓mOps, mAll, seval, vPtr, ite_ne, wrap_i64, boundN_int, fn19, Tryz.f19, mLit, eq_self, decide_true, decide_false, Bool.not_true, Bool.not_false, lenB, lenV, r1, r3, r4, b4, ↓cX2, ↓cK2, y', src34, ap]
            refine IH (body.length - (i + 1)) _ _ _ (by omega) ⟨i + 1, v3, rfl, by omega, ?_, ?_, ?_, hyes z b, by rw [hs]; exact B3, ⟨by have := G3.1; omega, fun a ha => by rw [k3 a ha, G3.2 a ha]⟩⟩
            iterate 3
              · simp only [mBase, Nat.reduceEqDiff, Nat.reduceSub, reduceIte, r1, r3, r4] <;> rfl
          · have y' : (x.1 = 1) = False := eq_false y
            rw [if_neg y, List.append_nil] at hs
            simp (maxSteps := 2000000) (disch := first | omega | assumption) only [↓mCode, ↓mOps, mAll, seval, vPtr, ite_ne, wrap_i64, boundN_int, fn19, Tryz.f19, mLit, eq_self, decide_true, decide_false, Bool.not_true, Bool.not_false, lenB, lenV, r1, r3, r4, b4, ↓cX2, ↓cK2, y']
            refine IH (body.length - (i + 1)) _ _ _ (by omega) ⟨i + 1, u, rfl, by omega, ?_, ?_, ?_, hyes z b, by rw [hs]; exact B.ext G2, G3⟩
            iterate 3
              · simp only [mBase, Nat.reduceEqDiff, Nat.reduceSub, reduceIte, r1, r3, r4] <;> rfl
      · have e : i = body.length := by omega
        have c1' : ((i : Int) < (body.length : Int)) = False := eq_false (by omega)
        simp (maxSteps := 2000000) (disch := first | omega | assumption) only [↓mCode, ↓mOps, mAll, seval, vPtr, ite_ne, wrap_i64, boundN_int, fn19, Tryz.f19, mLit, eq_self, decide_true, decide_false, Bool.not_true, Bool.not_false, lenB, lenV, r1, r3, r4, b3, c1']
        exact hexit _ _ _ ⟨u, by simp only [mBase, Nat.reduceEqDiff, Nat.reduceSub, reduceIte, r1], by simp only [mBase, Nat.reduceEqDiff, Nat.reduceSub, reduceIte, r3], fun j hj => hok j (by omega), by rwa [e, List.take_length] at B, G⟩
    · rintro regs h1 n1 ⟨u, r1, r3, hok, B, G⟩
      have G0 : Gro h n h1 n1 := GB.trans G
      have hlen : (holds body).length ≤ 64 := Nat.le_trans (List.length_filter_le _ _) (by omega)
      have gn1 : h1.get n = some (.cells (ofT [V.bool ask, V.bool dist, vv, vb]) 4 4) := by rw [G.2 n (by omega)]; exact gn
      have b3 : ∀ {kk : V → Out}, cellAt h1 n 3 kk = kk vb := fun {kk} => cell_of gn1 (by omega) rfl
      simp (maxSteps := 2000000) (disch := first | omega | assumption) only [↓mCode, ↓mOps, mAll, seval, vPtr, ite_ne, wrap_i64, boundN_int, fn19, Tryz.f19, mLit, eq_self, decide_true, decide_false, Bool.not_true, Bool.not_false, lenB, lenV, r1, r3]
      refine W_draw sr19_13 ss19_13 ?_ ?_
      · exact sk19_13
      simp (maxSteps := 2000000) (disch := first | omega | assumption) only [↓mCode, ↓mOps, mAll, seval, vPtr, ite_ne, wrap_i64, boundN_int, fn19, Tryz.f19, mLit, eq_self, decide_true, decide_false, Bool.not_true, Bool.not_false, lenB, lenV, r1, r3, b3]
      refine (vars02_ok B.lits (by omega)).call e0_hook e0_subs ?_
      rintro u1 h2 n2 ⟨B2, G2⟩
      have G02 : Gro h n h2 n2 := G0.trans G2
      have gn2 : h2.get n = some (.cells (ofT [V.bool ask, V.bool dist, vv, vb]) 4 4) := by rw [G2.2 n (by have := G.1; omega)]; exact gn1
      have b4 : ∀ {kk : V → Out}, cellAt h2 n 3 kk = kk vb := fun {kk} => cell_of gn2 (by omega) rfl
      have sm : ∀ {k : Out}, need (sameV vb vb) k = k := sl_same Rb.1
      simp (maxSteps := 2000000) (disch := first | omega | assumption) only [↓mCode, ↓mOps, mAll, seval, vPtr, ite_ne, wrap_i64, boundN_int, fn19, Tryz.f19, mLit, eq_self, decide_true, decide_false, Bool.not_true, Bool.not_false, lenB, lenV, r1, r3, b4, sm]
      refine (vars02_ok (Rb.ext G02) (by omega)).call e0_hook e0_subs ?_
      rintro u2 h3 n3 ⟨B3, G3⟩
      have G03 : Gro h n h3 n3 := G02.trans G3
      have gn3 : h3.get n = some (.cells (ofT [V.bool ask, V.bool dist, vv, vb]) 4 4) := by rw [G3.2 n (by have := G.1; have := G2.1; omega)]; exact gn2
      have B23 := B2.ext G3
      have wl : (varsL body).length ≤ 192 := by have := varsL_len (n := body.length) (l := body) (Nat.le_refl _); rw [List.take_length] at this; omega
      have wl2 : (varsL (holds body)).length ≤ 192 := by have := varsL_len (n := (holds body).length) (l := holds body) (Nat.le_refl _); rw [List.take_length] at this; omega
      have hw : ∀ w, w ∈ varsL body ↔ ∃ j, j < (varsL body).length ∧ (varsL body).getD j [] = w := fun w => mem_getD
      have okv : (∀ j, j < (varsL body).length → (varsL body).getD j [] ∈ varsL (holds body)) → ∀ w, w ∈ varsL body → w ∈ varsL (holds body) := fun q w hw2 => by
        obtain ⟨j, h1, rfl⟩ := (hw w).1 hw2
        exact q j h1
      have nokv : ∀ j, j < (varsL body).length → (varsL body).getD j [] ∉ varsL (holds body) → ¬ OkQ ask dist vars body := fun j h1 h2 o => h2 (o.2.2.2.2.2.2.1 _ ((hw _).2 ⟨j, h1, rfl⟩))
      generalize hWb : varsL body = W at *
      have lenU : ∀ {hh : T O} {e : Nat} {k : V → Out}, lenIn hh (.slice e) u2 k = k (.int .i64 (W.length : Int)) := B3.sl.lenA
      simp (maxSteps := 2000000) (disch := first | omega | assumption) only [↓mCode, ↓mOps, mAll, seval, vPtr, ite_ne, wrap_i64, boundN_int, fn19, Tryz.f19, mLit, eq_self, decide_true, decide_false, Bool.not_true, Bool.not_false, lenB, lenV, r1, r3]
      refine W_loopE (fun q regs h4 n4 => ∃ (j : Nat), q = W.length - j ∧ j ≤ W.length ∧ regs.get 1 = some (.ptr n 0) ∧ regs.get 5 = some u1 ∧ regs.get 6 = some u2 ∧ regs.get 7 = some (.int .i64 (j : Int)) ∧
          (∀ a, a < j → W.getD a [] ∈ varsL (holds body)) ∧ h4 = h3 ∧ n4 = n3)
        (fun regs h4 n4 => regs.get 1 = some (.ptr n 0) ∧ regs.get 5 = some u1 ∧ (∀ a, a < W.length → W.getD a [] ∈ varsL (holds body)) ∧ h4 = h3 ∧ n4 = n3)
        _ ⟨0, rfl, by omega, ?_, ?_, ?_, ?_, fun j hj => absurd hj (by omega), rfl, rfl⟩ ?_ ?_
      iterate 4
        · simp only [mBase, Nat.reduceEqDiff, Nat.reduceSub, reduceIte, r1] <;> rfl
      · rintro t2 hexit2 q rg h4 n4 ⟨j, rfl, hj, s1, s5, s6, s7, hin, rfl, rfl⟩ IH2
        by_cases d1 : j < W.length
        · have d1' : ((j : Int) < (W.length : Int)) = True := eq_true (by omega)
          obtain ⟨id2, off2, ex2, k2, lo2, rfl, hlo2, hc2⟩ := B3.sl.get1 d1
          simp (maxSteps := 2000000) (disch := first | omega | assumption) only [↓mCode, ↓mOps, mAll, seval, vPtr, ite_ne, wrap_i64, boundN_int, fn19, Tryz.f19, mLit, eq_self, decide_true, decide_false, Bool.not_true, Bool.not_false, lenB, lenV, s1, s5, s6, s7, d1', lenU, ↓hc2]
          refine (in58_ok B23.sl (by omega)).call e0_hook e0_subs ?_
          rintro _ h5 n5 ⟨rfl, rfl, rfl⟩
          by_cases z : W.getD j [] ∈ varsL (holds body)
          · have z' : (W.getD j [] ∈ varsL (holds body)) = True := eq_true z
            simp (maxSteps := 2000000) (disch := first | omega | assumption) only [↓mCode, ↓mOps, mAll, seval, vPtr, ite_ne, wrap_i64, boundN_int, fn19, Tryz.f19, mLit, eq_self, decide_true, decide_false, Bool.not_true, Bool.not_false, lenB, lenV, s1, s5, s6, s7, z']
            refine IH2 (W.length - (j + 1)) _ _ _ (by omega) ⟨j + 1, rfl, by omega, ?_, ?_, ?_, ?_, fun a ha => ?_, rfl, rfl⟩
            iterate 4
              · simp only [mBase, Nat.reduceEqDiff, Nat.reduceSub, reduceIte, s1, s5, s6, s7] <;> rfl
            · by_cases e : a = j
              · subst e; exact z
              · exact hin a (by omega)
          · have z' : (W.getD j [] ∈ varsL (holds body)) = False := eq_false z
            simp (maxSteps := 2000000) (disch := first | omega | assumption) only [↓mCode, ↓mOps, mAll, seval, vPtr, ite_ne, wrap_i64, boundN_int, fn19, Tryz.f19, mLit, eq_self, decide_true, decide_false, Bool.not_true, Bool.not_false, lenB, lenV, s1, s5, s6, s7, z']
            exact K _ _ _ ⟨by rw [mayQ_f (nokv j d1 z)], G03⟩
        · have e : j = W.length := by omega
          have d1' : ((j : Int) < (W.length : Int)) = False := eq_false (by omega)
          simp (maxSteps := 2000000) (disch := first | omega | assumption) only [↓mCode, ↓mOps, mAll, seval, vPtr, ite_ne, wrap_i64, boundN_int, fn19, Tryz.f19, mLit, eq_self, decide_true, decide_false, Bool.not_true, Bool.not_false, lenB, lenV, s1, s5, s6, s7, d1', lenU]
          exact hexit2 _ _ _ ⟨by simp only [mBase, Nat.reduceEqDiff, Nat.reduceSub, reduceIte, s1], by simp only [mBase, Nat.reduceEqDiff, Nat.reduceSub, reduceIte, s5], fun a ha => hin a (by omega), rfl, rfl⟩
      · rintro rg h4 n4 ⟨s1, s5, hin, rfl, rfl⟩
        have b2 : ∀ {kk : V → Out}, cellAt h4 n 2 kk = kk vv := fun {kk} => cell_of gn3 (by omega) rfl
        have Rv3 := Rv.ext G03
        simp (maxSteps := 2000000) (disch := first | omega | assumption) only [↓mCode, ↓mOps, mAll, seval, vPtr, ite_ne, wrap_i64, boundN_int, fn19, Tryz.f19, mLit, eq_self, decide_true, decide_false, Bool.not_true, Bool.not_false, lenB, lenV, s1, s5]
        refine W_loopE (fun q regs h5 n5 => ∃ (j : Nat), q = vars.length - j ∧ j ≤ vars.length ∧ regs.get 1 = some (.ptr n 0) ∧ regs.get 5 = some u1 ∧ regs.get 8 = some (.int .i64 (j : Int)) ∧
            (∀ a, a < j → vars.getD a [] ∈ varsL (holds body) ∧ vars.getD a [] ∉ vars.take a) ∧ h5 = h4 ∧ n5 = n4)
          (fun regs h5 n5 => (∀ a, a < vars.length → vars.getD a [] ∈ varsL (holds body) ∧ vars.getD a [] ∉ vars.take a) ∧ h5 = h4 ∧ n5 = n4)
          _ ⟨0, rfl, by omega, ?_, ?_, ?_, fun j hj => absurd hj (by omega), rfl, rfl⟩ ?_ ?_
        iterate 3
          · simp only [mBase, Nat.reduceEqDiff, Nat.reduceSub, reduceIte, s1, s5] <;> rfl
        · rintro t3 hexit3 q rg h5 n5 ⟨j, rfl, hj, s1, s5, s8, hin3, rfl, rfl⟩ IH3
          by_cases d1 : j < vars.length
          · have d1' : ((j : Int) < (vars.length : Int)) = True := eq_true (by omega)
            obtain ⟨id2, off2, ex2, k2, lo2, rfl, hlo2, hc2⟩ := Rv3.1.get1 d1
            have slf : ∀ {k : V → Out}, sliceK tys 22 (.slice id2 off2 vars.length ex2 k2 lo2) none (some (.int .i64 (j : Int))) none k = k (.slice id2 off2 j ex2 k2 lo2) := slice_to (by omega)
            have Sj : Sl h5 1 (strG (vars.take j)) (.slice id2 off2 j ex2 k2 lo2) (vars.take j).length := by
              have S := Rv3.1
              have tl : (vars.take j).length = j := by rw [List.length_take]; omega
              rw [tl]
              cases S with
              | slice _ _ _ _ _ _ hlo C =>
                obtain ⟨o, t, m, zz, g1, g2, g3, g4⟩ := C
                refine .slice _ _ _ _ _ _ (by omega) ⟨o, t, m, zz, g1, g2, by omega, fun a ha => ?_⟩
                rw [g4 a (by omega)]
                show some (V.str (vars.getD a [])) = some (V.str ((vars.take j).getD a []))
                rw [List.getD_eq_getElem?_getD, List.getD_eq_getElem?_getD, List.getElem?_take, if_pos (by omega)]
            have jl : (vars.take j).length ≤ 1000000 := by rw [List.length_take]; omega
            simp (maxSteps := 2000000) (disch := first | omega | assumption) only [↓mCode, ↓mOps, mAll, seval, vPtr, ite_ne, wrap_i64, boundN_int, fn19, Tryz.f19, mLit, eq_self, decide_true, decide_false, Bool.not_true, Bool.not_false, lenB, lenV, s1, s5, s8, b2, d1']
            refine W_draw sr19_22 ss19_22 ?_ ?_
            · exact sk19_22
            simp (maxSteps := 2000000) (disch := first | omega | assumption) only [↓mCode, ↓mOps, mAll, seval, vPtr, ite_ne, wrap_i64, boundN_int, fn19, Tryz.f19, mLit, eq_self, decide_true, decide_false, Bool.not_true, Bool.not_false, lenB, lenV, s1, s5, s8, b2, d1', ↓hc2]
            refine (in58_ok B23.sl (by omega)).call e0_hook e0_subs ?_
            rintro _ h6 n6 ⟨rfl, rfl, rfl⟩
            by_cases z : vars.getD j [] ∈ varsL (holds body)
            · have z' : (vars.getD j [] ∈ varsL (holds body)) = True := eq_true z
              cases ex2
              all_goals
                simp (maxSteps := 2000000) (disch := first | omega | assumption) only [↓mCode, ↓mOps, mAll, seval, vPtr, ite_ne, wrap_i64, boundN_int, fn19, Tryz.f19, mLit, eq_self, decide_true, decide_false, Bool.not_true, Bool.not_false, lenB, lenV, s1, s5, s8, b2, d1', ↓hc2, z', Nat.sub_zero, ite_self]
                refine (in58_ok Sj jl).call e0_hook e0_subs ?_
                rintro _ h7 n7 ⟨rfl, rfl, rfl⟩
                by_cases y : vars.getD j [] ∈ vars.take j
                · have y' : (vars.getD j [] ∈ vars.take j) = True := eq_true y
                  simp (maxSteps := 2000000) (disch := first | omega | assumption) only [↓mCode, ↓mOps, mAll, seval, vPtr, ite_ne, wrap_i64, boundN_int, fn19, Tryz.f19, mLit, eq_self, decide_true, decide_false, Bool.not_true, Bool.not_false, lenB, lenV, s1, s5, s8, y']
                  exact K _ _ _ ⟨by rw [mayQ_f fun o => (o.2.2.2.2.2.2.2 j d1).2 y], G03⟩
                · have y' : (vars.getD j [] ∈ vars.take j) = False := eq_false y
                  simp (maxSteps := 2000000) (disch := first | omega | assumption) only [↓mCode, ↓mOps, mAll, seval, vPtr, ite_ne, wrap_i64, boundN_int, fn19, Tryz.f19, mLit, eq_self, decide_true, decide_false, Bool.not_true, Bool.not_false, lenB, lenV, s1, s5, s8, y']
                  refine IH3 (vars.length - (j + 1)) _ _ _ (by omega) ⟨j + 1, rfl, by omega, ?_, ?_, ?_, fun a ha => ?_, rfl, rfl⟩
                  iterate 3
                    · simp only [mBase, Nat.reduceEqDiff, Nat.reduceSub, reduceIte, s1, s5, s8] <;> rfl
                  · by_cases e : a = j
                    · subst e; exact ⟨z, y⟩
                    · exact hin3 a (by omega)
            · have z' : (vars.getD j [] ∈ varsL (holds body)) = False := eq_false z
              simp (maxSteps := 2000000) (disch := first | omega | assumption) only [↓mCode, ↓mOps, mAll, seval, vPtr, ite_ne, wrap_i64, boundN_int, fn19, Tryz.f19, mLit, eq_self, decide_true, decide_false, Bool.not_true, Bool.not_false, lenB, lenV, s1, s5, s8, b2, d1', z']
              exact K _ _ _ ⟨by rw [mayQ_f fun o => z (o.2.2.2.2.2.2.2 j d1).1], G03⟩
          · have e : j = vars.length := by omega
            have d1' : ((j : Int) < (vars.length : Int)) = False := eq_false (by omega)
            simp (maxSteps := 2000000) (disch := first | omega | assumption) only [↓mCode, ↓mOps, mAll, seval, vPtr, ite_ne, wrap_i64, boundN_int, fn19, Tryz.f19, mLit, eq_self, decide_true, decide_false, Bool.not_true, Bool.not_false, lenB, lenV, s1, s5, s8, b2, d1']
            exact hexit3 _ _ _ ⟨fun a ha => hin3 a (by omega), rfl, rfl⟩
        · rintro rg h5 n5 ⟨hin3, rfl, rfl⟩
          simp (maxSteps := 2000000) (disch := first | omega | assumption) only [↓mCode, ↓mOps, mAll, seval, vPtr, ite_ne, wrap_i64, boundN_int, fn19, Tryz.f19, mLit, eq_self, decide_true, decide_false, Bool.not_true, Bool.not_false, lenB, lenV]
          exact K _ _ _ ⟨by rw [mayQ_t ⟨a1, a2, a3, HQ1, HQ2, hok, by rw [hWb]; exact okv hin, hin3⟩], G03⟩
end Go.Mir
