/- Walks: a row put into a list in order (the reference's put). -/
import Derived.Test.YtojkinikdcelbaaGreatDoorAnsG
set_option linter.unusedSimpArgs false
set_option linter.unusedVariables false
set_option linter.defProp false
namespace Go.Mir
open Go Go.Proofs Go.Srt
set_option maxRecDepth 4000
set_option maxHeartbeats 1000000

/-- a list of rows of the run's own making -/
def OutAt (h : T O) (n0 n : Nat) (v : V) (ls : List (List Tm)) : Prop :=
  (v = .base (.slice none 0 0) ∧ ls = []) ∨ ∃ id t, v = .slice id 0 ls.length false 0 ls.length ∧ h.get id = some (.cells t ls.length 1) ∧ n0 ≤ id ∧ id < n ∧
    ∃ g : Nat → V, ∀ j, j < ls.length → t.get j = some (g j) ∧ RowIn h n (g j) (ls.getD j []) ∧ vid (g j) ≠ some id

theorem OutAt.rows {h : T O} {n0 n : Nat} {v : V} {ls : List (List Tm)} (R : OutAt h n0 n v ls) : Rows h v ls := by
  rcases R with ⟨rfl, rfl⟩ | ⟨id, t, rfl, h1, h2, h3, g, hg⟩
  · exact ⟨fun _ => undefV, .nil none, fun i hi => absurd hi (by simp)⟩
  · exact ⟨g, .slice _ _ _ _ _ _ (Nat.le_refl _) ⟨_, t, _, 1, h1, .inl rfl, by omega, fun j hj => by rw [Nat.zero_add]; exact (hg j (by omega)).1⟩, fun i hi => (hg i hi).2.1.1⟩

theorem src22 : srcTy tys 22 (.slice 0 0 0 true 0 0) = true := by kernel_rfl
theorem src22_s {id off len kk lo : Nat} {ex : Bool} : srcTy tys 22 (.slice id off len ex kk lo) = true := src22

/-- how many at the front are less -/
def pos (c : List Tm → List Tm → Int) (x : List Tm) : List (List Tm) → Nat
  | [] => 0
  | y :: l => if c y x < 0 then pos c x l + 1 else 0

theorem pos_le (c : List Tm → List Tm → Int) (x : List Tm) : ∀ l, pos c x l ≤ l.length
  | [] => Nat.le_refl _
  | y :: l => by
    simp only [pos]; split
    · have := pos_le c x l; simp only [List.length_cons]; omega
    · exact Nat.zero_le _

theorem pos_lt (c : List Tm → List Tm → Int) (x : List Tm) : ∀ (l : List (List Tm)) (i : Nat), i < pos c x l → c (l.getD i []) x < 0
  | [], i, h => absurd h (by simp [pos])
  | y :: l, i, h => by
    simp only [pos] at h
    split at h
    · rename_i hc
      cases i with
      | zero => exact hc
      | succ i => exact pos_lt c x l i (by omega)
    · omega

theorem pos_at (c : List Tm → List Tm → Int) (x : List Tm) : ∀ (l : List (List Tm)), pos c x l < l.length → ¬ c (l.getD (pos c x l) []) x < 0
  | [], h => absurd h (by simp [pos])
  | y :: l, h => by
    simp only [pos] at h ⊢
    split
    · rename_i hc
      rw [if_pos hc] at h
      exact pos_at c x l (by simpa using h)
    · rename_i hc; exact hc

theorem ins_pos (c : List Tm → List Tm → Int) (x : List Tm) : ∀ l, ins c x l = l.take (pos c x l) ++ x :: l.drop (pos c x l)
  | [] => rfl
  | y :: l => by
    simp only [ins, pos]; split
    · rw [ins_pos c x l]; simp
    · rfl

theorem insOnce_pos (c : List Tm → List Tm → Int) (x : List Tm) : ∀ l, insOnce c x l = if pos c x l < l.length ∧ c (l.getD (pos c x l) []) x = 0 then l else l.take (pos c x l) ++ x :: l.drop (pos c x l)
  | [] => by simp [insOnce, pos]
  | y :: l => by
    simp only [insOnce, pos]; split
    · rw [insOnce_pos c x l]
      simp only [List.length_cons, Nat.add_lt_add_iff_right, List.getD_cons_succ, List.take_succ_cons, List.drop_succ_cons]
      split <;> simp
    · split
      · rename_i h1 h2; rw [if_pos ⟨by simp, by simpa using h2⟩]
      · rename_i h1 h2; rw [if_neg (by rintro ⟨_, h⟩; exact h2 (by simpa using h))]; rfl

noncomputable abbrev cmpR : List Tm → List Tm → Int := lexL cmpT

theorem getD_ins {l : List (List Tm)} {x : List Tm} {p : Nat} (hp : p ≤ l.length) (j : Nat) :
    (l.take p ++ x :: l.drop p).getD j [] = if j < p then l.getD j [] else if j = p then x else l.getD (j - 1) [] := by
  rw [List.getD_eq_getElem?_getD, List.getElem?_append, List.length_take, Nat.min_eq_left hp]
  split
  · rw [List.getElem?_take, if_pos (by assumption), List.getD_eq_getElem?_getD]
  · split
    · rename_i h; rw [h, Nat.sub_self]; rfl
    · have e : j - p = (j - p - 1) + 1 := by omega
      rw [e, List.getElem?_cons_succ, List.getElem?_drop, List.getD_eq_getElem?_getD]
      congr 2; omega

theorem put_fin {h H : T O} {n0 n N id idn p : Nat} {T' : T V} {g : Nat → V} {ls : List (List Tm)} {x : List Tm} {vr : V} (hp : p ≤ ls.length)
    (hg : ∀ j, j < ls.length → RowIn h n (g j) (ls.getD j []) ∧ vid (g j) ≠ some id) (hr : RowIn h n vr x) (hv : vid vr ≠ some id)
    (hH : H.get idn = some (.cells T' (ls.length + 1) 1)) (h1 : n0 ≤ idn) (h2 : idn < N) (h3 : n ≤ idn) (hnN : n ≤ N) (hk : ∀ j, j < n → j ≠ id → H.get j = h.get j)
    (hT : ∀ j, j < ls.length + 1 → T'.get j = some (if j < p then g j else if j = p then vr else g (j - 1))) :
    OutAt H n0 N (.slice idn 0 (ls.length + 1) false 0 (ls.length + 1)) (ls.take p ++ x :: ls.drop p) := by
  have hL : (ls.take p ++ x :: ls.drop p).length = ls.length + 1 := by simp; omega
  have ext : ∀ {v : V} {l : List Tm}, RowIn h n v l → vid v ≠ some id → RowIn H N v l := fun R hne =>
    ⟨R.1.keep fun i hi => hk i (R.2 i hi) (by rintro rfl; exact hne hi), fun i hi => Nat.lt_of_lt_of_le (R.2 i hi) hnN⟩
  have far : ∀ {v : V} {l : List Tm}, RowIn h n v l → vid v ≠ some idn := fun R e => by have := R.2 _ e; omega
  refine .inr ⟨idn, T', by rw [hL], by rw [hL]; exact hH, h1, h2, fun j => if j < p then g j else if j = p then vr else g (j - 1), fun j hj => ⟨hT j (by omega), ?_, ?_⟩⟩
  · rw [getD_ins hp]
    dsimp only
    by_cases c1 : j < p
    · rw [if_pos c1, if_pos c1]; exact ext (hg j (by omega)).1 (hg j (by omega)).2
    · rw [if_neg c1, if_neg c1]
      by_cases c2 : j = p
      · rw [if_pos c2, if_pos c2]; exact ext hr hv
      · rw [if_neg c2, if_neg c2]; exact ext (hg (j - 1) (by omega)).1 (hg (j - 1) (by omega)).2
  · dsimp only
    by_cases c1 : j < p
    · rw [if_pos c1]; exact far (hg j (by omega)).1
    · rw [if_neg c1]
      by_cases c2 : j = p
      · rw [if_pos c2]; exact far hr
      · rw [if_neg c2]; exact far (hg (j - 1) (by omega)).1

set_option maxHeartbeats 4000000 in
/-- a row put into its place, by the reference's put -/
theorem put_ok {h : T O} {n0 n : Nat} {vl vr : V} {ls : List (List Tm)} {x : List Tm} {once : Bool} (hl : OutAt h n0 n vl ls) (hr : RowIn h n vr x) (hv : ∀ id, vid vr = some id → id < n0) (hn : ls.length ≤ 1000) (hx : x.length ≤ 1000000) (hs : Small ls) (h0 : n0 ≤ n) :
    Fn env1 45 [vl, vr, .bool once] h n (fun v h' n' => OutAt h' n0 n' v (if once then insOnce cmpR x ls else ins cmpR x ls) ∧ Gro h n0 h' n') := by
  refine Fn.mk fn45 rfl fz45 (by simp) fun Q cs K => ?_
  have hrows := hl.rows
  have l_len : ∀ {e : Nat} {k : V → Out}, lenIn h (.slice e) vl k = k (.int .i64 (ls.length : Int)) := hrows.len
  simp (maxSteps := 2000000) (disch := first | omega | assumption) only [↓mCode, ↓mOps, mAll, seval, vPtr, ite_ne, wrap_i64, boundN_int, e1_tys, e1_fns, fn45, Tryz.f45]
  have hpl := pos_le cmpR x ls
  have hx0 := (lexL_LC cmpT_LC)
  refine W_loopE (fun m regs h' n' => ∃ i : Nat, m = ls.length - i ∧ i ≤ pos cmpR x ls ∧ regs.get 0 = some vl ∧ regs.get 1 = some vr ∧ regs.get 2 = some (.bool once) ∧ regs.get 7 = some (.int .i64 (i : Int)) ∧
    h' = h ∧ n' = n) (fun regs h' n' => regs.get 0 = some vl ∧ regs.get 1 = some vr ∧ regs.get 2 = some (.bool once) ∧ regs.get 7 = some (.int .i64 (pos cmpR x ls : Int)) ∧ h' = h ∧ n' = n) _ ⟨0, rfl, by omega, ?_, ?_, ?_, ?_, rfl, rfl⟩ ?_ ?_
  · simp (maxSteps := 2000000) (disch := first | omega | assumption) only [↓mCode, ↓mOps, mAll, seval, vPtr, ite_ne, wrap_i64, boundN_int, e1_tys]
  · simp (maxSteps := 2000000) (disch := first | omega | assumption) only [↓mCode, ↓mOps, mAll, seval, vPtr, ite_ne, wrap_i64, boundN_int, e1_tys]
  · simp (maxSteps := 2000000) (disch := first | omega | assumption) only [↓mCode, ↓mOps, mAll, seval, vPtr, ite_ne, wrap_i64, boundN_int, e1_tys]
  · simp (maxSteps := 2000000) (disch := first | omega | assumption) only [↓mCode, ↓mOps, mAll, seval, vPtr, ite_ne, wrap_i64, boundN_int, e1_tys]
  · rintro t hexit m regs h' n' ⟨i, rfl, hi, r0, r1, r2, r7, rfl, rfl⟩ IH
    by_cases c1 : i < ls.length
    · have c1' : (i : Int) < (ls.length : Int) := by omega
      obtain ⟨ida, ofa, exa, ka, loa, ra, hvl, hloa, hca, hra⟩ := hrows.get c1
      simp (maxSteps := 2000000) (disch := first | omega | assumption) only [↓mCode, ↓mOps, mAll, seval, vPtr, ite_ne, wrap_i64, boundN_int, e1_tys, e1_fns, fn45, Tryz.f45, r0, r1, r2, r7, l_len, c1', hvl, hca, Nat.mul_one]
      refine (cmpRows_ok hra hr.1 (hs i c1) hx).call rfl e1_subs ?_
      rintro _ _ _ ⟨rfl, rfl, rfl⟩
      simp (maxSteps := 2000000) (disch := first | omega | assumption) only [↓mCode, ↓mOps, mAll, seval, vPtr, ite_ne, wrap_i64, boundN_int, e1_tys, e1_fns, fn45, Tryz.f45, r0, r1, r2, r7]
      refine ⟨fun h1 => ?_, fun h1 => ?_⟩
      · have hp : i < pos cmpR x ls := by
          rcases Nat.lt_or_ge i (pos cmpR x ls) with h | h
          · exact h
          · have e : i = pos cmpR x ls := by omega
            exact absurd h1 (by rw [e]; exact pos_at cmpR x ls (by omega))
        refine IH (ls.length - (i + 1)) _ _ _ (by omega) ⟨i + 1, rfl, by omega, ?_, ?_, ?_, ?_, rfl, rfl⟩
        iterate 4
          · simp only [mBase, Nat.reduceEqDiff, Nat.reduceSub, reduceIte, r0, r1, r2] <;> rfl
      · have hp : i = pos cmpR x ls := by
          rcases Nat.lt_or_ge i (pos cmpR x ls) with h | h
          · exact absurd (pos_lt cmpR x ls i h) h1
          · omega
        refine hexit _ _ _ ⟨?_, ?_, ?_, ?_, rfl, rfl⟩
        iterate 3
          · simp only [mBase, Nat.reduceEqDiff, Nat.reduceSub, reduceIte, r0, r1, r2] <;> rfl
        · simp (maxSteps := 2000000) (disch := first | omega | assumption) only [↓mCode, ↓mOps, mAll, seval, vPtr, ite_ne, wrap_i64, boundN_int, r7]; rw [← hp]
    · have c1' : ¬ (i : Int) < (ls.length : Int) := by omega
      have hp : i = pos cmpR x ls := by omega
      simp (maxSteps := 2000000) (disch := first | omega | assumption) only [↓mCode, ↓mOps, mAll, seval, vPtr, ite_ne, wrap_i64, boundN_int, e1_tys, e1_fns, fn45, Tryz.f45, r0, r1, r2, r7, l_len, c1']
      refine hexit _ _ _ ⟨?_, ?_, ?_, ?_, rfl, rfl⟩
      iterate 3
        · simp only [mBase, Nat.reduceEqDiff, Nat.reduceSub, reduceIte, r0, r1, r2] <;> rfl
      · simp (maxSteps := 2000000) (disch := first | omega | assumption) only [↓mCode, ↓mOps, mAll, seval, vPtr, ite_ne, wrap_i64, boundN_int, r7]; rw [← hp]
  rintro regs h' n' ⟨r0, r1, r2, r7, rfl, rfl⟩
  generalize hp : pos cmpR x ls = p at *
  have one_r : oneV vr = true := hr.1.one
  have cell_r : cellsOf vr = [vr] := cellsOf_one one_r
  have hnv : ∀ id, vid vr = some id → id < n' := hr.2
  rcases hl with ⟨rfl, rfl⟩ | ⟨id, t, rfl, g1, g2, g3, g, hg⟩
  · have ep : p = 0 := by have : p ≤ 0 := hpl; omega
    subst ep
    cases once with
    | true =>
      simp (maxSteps := 2000000) (disch := first | omega | assumption) only [↓mCode, ↓mOps, mAll, seval, vPtr, ite_ne, wrap_i64, boundN_int, e1_tys, e1_fns, fn45, Tryz.f45, r0, r1, r2, r7, l_len, src22_s, need_true]
      refine W_draw sr45_7 ss45_7 ?_ ?_
      · exact sk45_7
      simp (maxSteps := 2000000) (disch := first | omega | assumption) only [↓mCode, ↓mOps, mAll, seval, vPtr, ite_ne, wrap_i64, boundN_int, e1_tys, e1_fns, fn45, Tryz.f45, r0, r1, r2, r7, l_len, src22_s, need_true, one_r, cell_r]
      refine K _ _ _ ⟨.inr ⟨n' + 1, _, rfl, T.get_put _ _ _ _ |>.trans (if_pos rfl), ?_, by omega, fun _ => vr, fun j hj => ⟨?_, ?_, ?_⟩⟩, ?_⟩
      · omega
      · have e : j = 0 := by simp [insOnce, ins] at hj; omega
        subst e; rw [T.get_put, if_pos rfl]
      · have e : j = 0 := by simp [insOnce, ins] at hj; omega
        subst e
        exact hr.ext (((Gro.refl h' n').put _).put _ |>.set (by omega) _)
      · intro e; have := hnv _ e; omega
      · have := ((Gro.refl h' n').put (.cells (ofT [V.base (Value.slice none 0 0)]) 1 1)).put (.cells (ofT [V.base (Value.slice none 0 0)]) 1 1)
        exact ⟨by have := this.1; omega, fun j hj => (this.set (j := n' + 1) (by omega) _).2 j (by omega)⟩
    | false =>
      simp (maxSteps := 2000000) (disch := first | omega | assumption) only [↓mCode, ↓mOps, mAll, seval, vPtr, ite_ne, wrap_i64, boundN_int, e1_tys, e1_fns, fn45, Tryz.f45, r0, r1, r2, r7, l_len, src22_s, need_true]
      refine W_draw sr45_7 ss45_7 ?_ ?_
      · exact sk45_7
      simp (maxSteps := 2000000) (disch := first | omega | assumption) only [↓mCode, ↓mOps, mAll, seval, vPtr, ite_ne, wrap_i64, boundN_int, e1_tys, e1_fns, fn45, Tryz.f45, r0, r1, r2, r7, l_len, src22_s, need_true, one_r, cell_r]
      refine K _ _ _ ⟨.inr ⟨n' + 1, _, rfl, T.get_put _ _ _ _ |>.trans (if_pos rfl), ?_, by omega, fun _ => vr, fun j hj => ⟨?_, ?_, ?_⟩⟩, ?_⟩
      · omega
      · have e : j = 0 := by simp [insOnce, ins] at hj; omega
        subst e; rw [T.get_put, if_pos rfl]
      · have e : j = 0 := by simp [insOnce, ins] at hj; omega
        subst e
        exact hr.ext (((Gro.refl h' n').put _).put _ |>.set (by omega) _)
      · intro e; have := hnv _ e; omega
      · have := ((Gro.refl h' n').put (.cells (ofT [V.base (Value.slice none 0 0)]) 1 1)).put (.cells (ofT [V.base (Value.slice none 0 0)]) 1 1)
        exact ⟨by have := this.1; omega, fun j hj => (this.set (j := n' + 1) (by omega) _).2 j (by omega)⟩
  · have hC : ∀ {kk : List V → Out}, cellsAt h' id 0 (ls.length * 1) kk = kk ((List.range (ls.length * 1)).map g) := Cells.all ⟨_, t, _, 1, g1, .inl rfl, by omega, fun j hj => by rw [Nat.zero_add]; exact (hg j (by omega)).1⟩ rfl rfl
    simp only [Nat.mul_one] at hC
    have hA : allOne ((List.range ls.length).map g ++ [V.base (.slice none 0 0)]) = true := allOne_of fun v hv => by
      rcases List.mem_append.1 hv with hv | hv
      · obtain ⟨j, hj, rfl⟩ := List.mem_map.1 hv
        exact (hg j (List.mem_range.1 hj)).2.1.1.one
      · rw [List.mem_singleton.1 hv]; rfl
    have c2 : ¬ ls.length + 1 ≤ ls.length := by omega
    cases once with
    | true =>
      by_cases c7 : p < ls.length
      · have c7' : (p : Int) < (ls.length : Int) := by omega
        obtain ⟨ida, ofa, exa, ka, loa, ra, hvl, hloa, hca, hra⟩ := hrows.get c7
        cases hvl
        simp only [Nat.zero_add, Nat.mul_one] at hca
        simp (maxSteps := 2000000) (disch := first | omega | assumption) only [↓mCode, ↓mOps, mAll, seval, vPtr, ite_ne, wrap_i64, boundN_int, e1_tys, e1_fns, fn45, Tryz.f45, r0, r1, r2, r7, l_len, c7', hca, Nat.mul_one]
        refine (cmpRows_ok hra hr.1 (hs p c7) hx).call rfl e1_subs ?_
        rintro _ h' n' ⟨rfl, rfl, rfl⟩
        by_cases c8 : lexL cmpT (ls.getD p []) x = 0
        · simp (maxSteps := 2000000) (disch := first | omega | assumption) only [↓mCode, ↓mOps, mAll, seval, vPtr, ite_ne, wrap_i64, boundN_int, e1_tys, e1_fns, fn45, Tryz.f45, r0, r1, r2, r7, l_len, src22_s, need_true, app1_eq, app2_eq, growK_eq, hC, hA, c2, g1, Nat.mul_one, c8]
          refine K _ _ _ ⟨?_, Gro.up ⟨h0, fun _ _ => rfl⟩ (Nat.le_refl _)⟩
          rw [if_pos rfl, insOnce_pos, hp, if_pos ⟨c7, c8⟩]
          exact .inr ⟨id, t, rfl, g1, g2, g3, g, hg⟩
        · have hres : (if true = true then insOnce cmpR x ls else ins cmpR x ls) = ls.take p ++ x :: ls.drop p := by
            rw [if_pos rfl, insOnce_pos, hp, if_neg (fun e => c8 e.2)]
          simp (maxSteps := 2000000) (disch := first | omega | assumption) only [↓mCode, ↓mOps, mAll, seval, vPtr, ite_ne, wrap_i64, boundN_int, e1_tys, e1_fns, fn45, Tryz.f45, r0, r1, r2, r7, l_len, src22_s, need_true, app1_eq, app2_eq, growK_eq, hC, hA, c2, g1, Nat.mul_one, c8]
          refine W_draw sr45_7 ss45_7 ?_ ?_
          · exact sk45_7
          have e1 : ((p : Int) + 1).toNat = p + 1 := by omega
          have e3 : ls.length + 1 - (p + 1) = ls.length - p := by omega
          have e2 : ls.length - p - (ls.length + 1 - p) = 0 := by omega
          have b1 : Nat.ble (p + (ls.length - p)) (ls.length + 1) = true := Nat.ble_eq_true_of_le (by omega)
          have b2 : Nat.ble (p + 1 + (ls.length - p)) (ls.length + 1) = true := Nat.ble_eq_true_of_le (by omega)
          generalize hLL : (List.range ls.length).map g = L at *
          have lL : L.length = ls.length := by rw [← hLL]; simp
          generalize hL' : L ++ [V.base (.slice none 0 0)] = L' at *
          have lL' : L'.length = ls.length + 1 := by rw [← hL']; simp [lL]
          have hld : ∀ {kk : List V → Out}, loadN (ofT L') p (ls.length - p) kk = kk ((L'.drop p).take (ls.length - p)) := loadN_ofT (by omega)
          generalize hM : (L'.drop p).take (ls.length - p) = M at *
          have lM : M.length = ls.length - p := by rw [← hM]; simp; omega
          have hA2 : allOne M = true := allOne_of fun v hv => by
            rw [← hM] at hv
            have hv := List.mem_of_mem_drop (List.mem_of_mem_take hv)
            rw [← hL', ← hLL] at hv
            rcases List.mem_append.1 hv with hv | hv
            · obtain ⟨j, hj, rfl⟩ := List.mem_map.1 hv
              exact (hg j (List.mem_range.1 hj)).2.1.1.one
            · rw [List.mem_singleton.1 hv]; rfl
          have getL' : ∀ j, L'[j]? = if j < ls.length then some (g j) else if j = ls.length then some (V.base (.slice none 0 0)) else none := fun j => by
            rw [← hL', ← hLL, List.getElem?_append, List.length_map, List.length_range]
            split
            · rename_i hj; rw [List.getElem?_map, List.getElem?_range hj]; rfl
            · rename_i hj
              by_cases e : j = ls.length
              · rw [e, Nat.sub_self, if_pos rfl]; rfl
              · rw [if_neg e, List.getElem?_eq_none (by simp; omega)]
          have hT : ∀ j, j < ls.length + 1 → ((layT (ofT L') (p + 1) M).put p (some vr)).get j = some (if j < p then g j else if j = p then vr else g (j - 1)) := fun j hj => by
            rw [T.get_put]
            by_cases c : j = p
            · rw [if_pos c, if_neg (by omega), if_pos c]
            · rw [if_neg c, layT_get, lM, ofT_get]
              by_cases c' : j < p
              · rw [if_neg (by omega), if_pos c', getL', if_pos (by omega)]
              · rw [if_pos (by omega), if_neg c', if_neg c, ← hM, List.getElem?_take, if_pos (by omega), List.getElem?_drop, getL', if_pos (by omega)]
                congr 2; omega
          have fin : ∀ {T' : T V} {H : T O}, H.get (n' + 1) = some (.cells T' (ls.length + 1) 1) → (∀ j, j < n' → j ≠ id → H.get j = h'.get j) →
              (∀ j, j < ls.length + 1 → T'.get j = some (if j < p then g j else if j = p then vr else g (j - 1))) →
              W env1 Q fun go => popK (V.slice (n' + 1) 0 (ls.length + 1) false 0 (ls.length + 1)) cs H (n' + 1 + 1) go := fun {T' H} a b c =>
            K _ _ _ ⟨by
              rw [hres]
              exact put_fin hpl (fun j hj => ⟨(hg j hj).2.1, (hg j hj).2.2⟩) hr (fun e => by have := hv _ e; omega) a (by omega) (by omega) (by omega) (by omega) b c,
              by omega, fun j hj => b j (by omega) (by omega)⟩
          by_cases c3 : p < ls.length
          · have c4 : p + 1 ≤ ls.length := c3
            have c5 : p ≤ ls.length := by omega
            simp (maxSteps := 2000000) (disch := first | omega | assumption) only [↓mCode, ↓mOps, mAll, seval, vPtr, ite_ne, wrap_i64, boundN_int, e1_tys, e1_fns, fn45, Tryz.f45, r0, r1, r2, r7, l_len, src22_s, need_true, one_r, cell_r, copyK_slice, Nat.mul_one, e1, e2, e3, b1, b2, hld, hA2, lM, lL, c4, c5]
            refine fin (T.get_put _ _ _ _ |>.trans (if_pos rfl)) (fun j hj hne => ?_) hT
            simp only [T.get_put]
            repeat rw [if_neg (by omega)]
          · have c4 : p = ls.length := by omega
            have c6 : ¬ (p + 1 ≤ ls.length) := by omega
            have c5 : p ≤ ls.length := by omega
            simp (maxSteps := 2000000) (disch := first | omega | assumption) only [↓mCode, ↓mOps, mAll, seval, vPtr, ite_ne, wrap_i64, boundN_int, e1_tys, e1_fns, fn45, Tryz.f45, r0, r1, r2, r7, l_len, src22_s, need_true, one_r, cell_r, copyK_tail, Nat.mul_one, e1, e2, e3, b1, b2, hld, hA2, lM, lL, c6, c5]
            refine fin (T.get_put _ _ _ _ |>.trans (if_pos rfl)) (fun j hj hne => ?_) fun j hj => ?_
            · simp only [T.get_put]
              repeat rw [if_neg (by omega)]
            · rw [T.get_put]
              by_cases c : j = p
              · rw [if_pos c, if_neg (by omega), if_pos c]
              · rw [if_neg c, ofT_get, getL', if_pos (by omega), if_pos (by omega)]
      · have c7' : ¬ (p : Int) < (ls.length : Int) := by omega
        have hres : (if true = true then insOnce cmpR x ls else ins cmpR x ls) = ls.take p ++ x :: ls.drop p := by
          rw [if_pos rfl, insOnce_pos, hp, if_neg (fun e => c7 e.1)]
        simp (maxSteps := 2000000) (disch := first | omega | assumption) only [↓mCode, ↓mOps, mAll, seval, vPtr, ite_ne, wrap_i64, boundN_int, e1_tys, e1_fns, fn45, Tryz.f45, r0, r1, r2, r7, l_len, src22_s, need_true, app1_eq, app2_eq, growK_eq, hC, hA, c2, g1, Nat.mul_one, c7']
        refine W_draw sr45_7 ss45_7 ?_ ?_
        · exact sk45_7
        have e1 : ((p : Int) + 1).toNat = p + 1 := by omega
        have e3 : ls.length + 1 - (p + 1) = ls.length - p := by omega
        have e2 : ls.length - p - (ls.length + 1 - p) = 0 := by omega
        have b1 : Nat.ble (p + (ls.length - p)) (ls.length + 1) = true := Nat.ble_eq_true_of_le (by omega)
        have b2 : Nat.ble (p + 1 + (ls.length - p)) (ls.length + 1) = true := Nat.ble_eq_true_of_le (by omega)
        generalize hLL : (List.range ls.length).map g = L at *
        have lL : L.length = ls.length := by rw [← hLL]; simp
        generalize hL' : L ++ [V.base (.slice none 0 0)] = L' at *
        have lL' : L'.length = ls.length + 1 := by rw [← hL']; simp [lL]
        have hld : ∀ {kk : List V → Out}, loadN (ofT L') p (ls.length - p) kk = kk ((L'.drop p).take (ls.length - p)) := loadN_ofT (by omega)
        generalize hM : (L'.drop p).take (ls.length - p) = M at *
        have lM : M.length = ls.length - p := by rw [← hM]; simp; omega
        have hA2 : allOne M = true := allOne_of fun v hv => by
          rw [← hM] at hv
          have hv := List.mem_of_mem_drop (List.mem_of_mem_take hv)
          rw [← hL', ← hLL] at hv
          rcases List.mem_append.1 hv with hv | hv
          · obtain ⟨j, hj, rfl⟩ := List.mem_map.1 hv
            exact (hg j (List.mem_range.1 hj)).2.1.1.one
          · rw [List.mem_singleton.1 hv]; rfl
        have getL' : ∀ j, L'[j]? = if j < ls.length then some (g j) else if j = ls.length then some (V.base (.slice none 0 0)) else none := fun j => by
          rw [← hL', ← hLL, List.getElem?_append, List.length_map, List.length_range]
          split
          · rename_i hj; rw [List.getElem?_map, List.getElem?_range hj]; rfl
          · rename_i hj
            by_cases e : j = ls.length
            · rw [e, Nat.sub_self, if_pos rfl]; rfl
            · rw [if_neg e, List.getElem?_eq_none (by simp; omega)]
        have hT : ∀ j, j < ls.length + 1 → ((layT (ofT L') (p + 1) M).put p (some vr)).get j = some (if j < p then g j else if j = p then vr else g (j - 1)) := fun j hj => by
          rw [T.get_put]
          by_cases c : j = p
          · rw [if_pos c, if_neg (by omega), if_pos c]
          · rw [if_neg c, layT_get, lM, ofT_get]
            by_cases c' : j < p
            · rw [if_neg (by omega), if_pos c', getL', if_pos (by omega)]
            · rw [if_pos (by omega), if_neg c', if_neg c, ← hM, List.getElem?_take, if_pos (by omega), List.getElem?_drop, getL', if_pos (by omega)]
              congr 2; omega
        have fin : ∀ {T' : T V} {H : T O}, H.get (n' + 1) = some (.cells T' (ls.length + 1) 1) → (∀ j, j < n' → j ≠ id → H.get j = h'.get j) →
            (∀ j, j < ls.length + 1 → T'.get j = some (if j < p then g j else if j = p then vr else g (j - 1))) →
            W env1 Q fun go => popK (V.slice (n' + 1) 0 (ls.length + 1) false 0 (ls.length + 1)) cs H (n' + 1 + 1) go := fun {T' H} a b c =>
          K _ _ _ ⟨by
            rw [hres]
            exact put_fin hpl (fun j hj => ⟨(hg j hj).2.1, (hg j hj).2.2⟩) hr (fun e => by have := hv _ e; omega) a (by omega) (by omega) (by omega) (by omega) b c,
            by omega, fun j hj => b j (by omega) (by omega)⟩
        by_cases c3 : p < ls.length
        · exact absurd c3 c7
        · have c4 : p = ls.length := by omega
          have c6 : ¬ (p + 1 ≤ ls.length) := by omega
          have c5 : p ≤ ls.length := by omega
          simp (maxSteps := 2000000) (disch := first | omega | assumption) only [↓mCode, ↓mOps, mAll, seval, vPtr, ite_ne, wrap_i64, boundN_int, e1_tys, e1_fns, fn45, Tryz.f45, r0, r1, r2, r7, l_len, src22_s, need_true, one_r, cell_r, copyK_tail, Nat.mul_one, e1, e2, e3, b1, b2, hld, hA2, lM, lL, c6, c5]
          refine fin (T.get_put _ _ _ _ |>.trans (if_pos rfl)) (fun j hj hne => ?_) fun j hj => ?_
          · simp only [T.get_put]
            repeat rw [if_neg (by omega)]
          · rw [T.get_put]
            by_cases c : j = p
            · rw [if_pos c, if_neg (by omega), if_pos c]
            · rw [if_neg c, ofT_get, getL', if_pos (by omega), if_pos (by omega)]
    | false =>
      have hres : (if false = true then insOnce cmpR x ls else ins cmpR x ls) = ls.take p ++ x :: ls.drop p := by
        rw [if_neg (by simp), ins_pos, hp]
      simp (maxSteps := 2000000) (disch := first | omega | assumption) only [↓mCode, ↓mOps, mAll, seval, vPtr, ite_ne, wrap_i64, boundN_int, e1_tys, e1_fns, fn45, Tryz.f45, r0, r1, r2, r7, l_len, src22_s, need_true, app1_eq, app2_eq, growK_eq, hC, hA, c2, g1, Nat.mul_one]
      refine W_draw sr45_7 ss45_7 ?_ ?_
      · exact sk45_7
      have e1 : ((p : Int) + 1).toNat = p + 1 := by omega
      have e3 : ls.length + 1 - (p + 1) = ls.length - p := by omega
      have e2 : ls.length - p - (ls.length + 1 - p) = 0 := by omega
      have b1 : Nat.ble (p + (ls.length - p)) (ls.length + 1) = true := Nat.ble_eq_true_of_le (by omega)
      have b2 : Nat.ble (p + 1 + (ls.length - p)) (ls.length + 1) = true := Nat.ble_eq_true_of_le (by omega)
      generalize hLL : (List.range ls.length).map g = L at *
      have lL : L.length = ls.length := by rw [← hLL]; simp
      generalize hL' : L ++ [V.base (.slice none 0 0)] = L' at *
      have lL' : L'.length = ls.length + 1 := by rw [← hL']; simp [lL]
      have hld : ∀ {kk : List V → Out}, loadN (ofT L') p (ls.length - p) kk = kk ((L'.drop p).take (ls.length - p)) := loadN_ofT (by omega)
      generalize hM : (L'.drop p).take (ls.length - p) = M at *
      have lM : M.length = ls.length - p := by rw [← hM]; simp; omega
      have hA2 : allOne M = true := allOne_of fun v hv => by
        rw [← hM] at hv
        have hv := List.mem_of_mem_drop (List.mem_of_mem_take hv)
        rw [← hL', ← hLL] at hv
        rcases List.mem_append.1 hv with hv | hv
        · obtain ⟨j, hj, rfl⟩ := List.mem_map.1 hv
          exact (hg j (List.mem_range.1 hj)).2.1.1.one
        · rw [List.mem_singleton.1 hv]; rfl
      have getL' : ∀ j, L'[j]? = if j < ls.length then some (g j) else if j = ls.length then some (V.base (.slice none 0 0)) else none := fun j => by
        rw [← hL', ← hLL, List.getElem?_append, List.length_map, List.length_range]
        split
        · rename_i hj; rw [List.getElem?_map, List.getElem?_range hj]; rfl
        · rename_i hj
          by_cases e : j = ls.length
          · rw [e, Nat.sub_self, if_pos rfl]; rfl
          · rw [if_neg e, List.getElem?_eq_none (by simp; omega)]
      have hT : ∀ j, j < ls.length + 1 → ((layT (ofT L') (p + 1) M).put p (some vr)).get j = some (if j < p then g j else if j = p then vr else g (j - 1)) := fun j hj => by
        rw [T.get_put]
        by_cases c : j = p
        · rw [if_pos c, if_neg (by omega), if_pos c]
        · rw [if_neg c, layT_get, lM, ofT_get]
          by_cases c' : j < p
          · rw [if_neg (by omega), if_pos c', getL', if_pos (by omega)]
          · rw [if_pos (by omega), if_neg c', if_neg c, ← hM, List.getElem?_take, if_pos (by omega), List.getElem?_drop, getL', if_pos (by omega)]
            congr 2; omega
      have fin : ∀ {T' : T V} {H : T O}, H.get (n' + 1) = some (.cells T' (ls.length + 1) 1) → (∀ j, j < n' → j ≠ id → H.get j = h'.get j) →
          (∀ j, j < ls.length + 1 → T'.get j = some (if j < p then g j else if j = p then vr else g (j - 1))) →
          W env1 Q fun go => popK (V.slice (n' + 1) 0 (ls.length + 1) false 0 (ls.length + 1)) cs H (n' + 1 + 1) go := fun {T' H} a b c =>
        K _ _ _ ⟨by
          rw [hres]
          exact put_fin hpl (fun j hj => ⟨(hg j hj).2.1, (hg j hj).2.2⟩) hr (fun e => by have := hv _ e; omega) a (by omega) (by omega) (by omega) (by omega) b c,
          by omega, fun j hj => b j (by omega) (by omega)⟩
      by_cases c3 : p < ls.length
      · have c4 : p + 1 ≤ ls.length := c3
        have c5 : p ≤ ls.length := by omega
        simp (maxSteps := 2000000) (disch := first | omega | assumption) only [↓mCode, ↓mOps, mAll, seval, vPtr, ite_ne, wrap_i64, boundN_int, e1_tys, e1_fns, fn45, Tryz.f45, r0, r1, r2, r7, l_len, src22_s, need_true, one_r, cell_r, copyK_slice, Nat.mul_one, e1, e2, e3, b1, b2, hld, hA2, lM, lL, c4, c5]
        refine fin (T.get_put _ _ _ _ |>.trans (if_pos rfl)) (fun j hj hne => ?_) hT
        simp only [T.get_put]
        repeat rw [if_neg (by omega)]
      · have c4 : p = ls.length := by omega
        have c6 : ¬ (p + 1 ≤ ls.length) := by omega
        have c5 : p ≤ ls.length := by omega
        simp (maxSteps := 2000000) (disch := first | omega | assumption) only [↓mCode, ↓mOps, mAll, seval, vPtr, ite_ne, wrap_i64, boundN_int, e1_tys, e1_fns, fn45, Tryz.f45, r0, r1, r2, r7, l_len, src22_s, need_true, one_r, cell_r, copyK_tail, Nat.mul_one, e1, e2, e3, b1, b2, hld, hA2, lM, lL, c6, c5]
        refine fin (T.get_put _ _ _ _ |>.trans (if_pos rfl)) (fun j hj hne => ?_) fun j hj => ?_
        · simp only [T.get_put]
          repeat rw [if_neg (by omega)]
        · rw [T.get_put]
          by_cases c : j = p
          · rw [if_pos c, if_neg (by omega), if_pos c]
          · rw [if_neg c, ofT_get, getL', if_pos (by omega), if_pos (by omega)]
end Go.Mir
