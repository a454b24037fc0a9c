/- Walks: rows without others (the program's less). -/
import Derived.Test.YtojkinikdcelbaaGreatDoorWatA
set_option linter.unusedSimpArgs false
set_option linter.unusedVariables false
set_option linter.defProp false
namespace Go.Mir
open Go Go.Proofs Go.Srt
set_option maxRecDepth 4000
set_option maxHeartbeats 8000000

abbrev tiS : TI := { kind := .string, size := 1, bytes := 16, zero := [.str []] }
theorem keySelf {w : List Nat} {kb : Bool → Out} : keyEq tys tiS (.str w) (.str w) kb = kb true := by rw [keyEq_str, eqT_str, eqStr_eq, decide_eq_true rfl]
theorem find_get {w : List Nat} {k : V → Out} : ∀ {es : List (List Nat × Int × Nat)} {i : Nat}, findI tys tiS (.str w) (entV es) i (k (.int .i64 0)) (fun _ e => k e.2.1) = k (.int .i64 (getE es w))
  | [], _ => rfl
  | e :: es, i => by
    show findI tys tiS (.str w) ((.str e.1, .int .i64 e.2.1, e.2.2) :: entV es) i _ _ = _
    rw [findI_cons, keyEq_str, eqT_str, eqStr_eq]
    by_cases h : w = e.1
    · rw [decide_eq_true h]
      show k _ = _
      rw [getE, if_pos h]
    · rw [decide_eq_false h]
      show findI tys tiS (.str w) (entV es) (i + 1) _ _ = _
      rw [find_get, getE, if_neg h]
theorem modify_app {α : Type _} {f : α → α} {x : α} {b : List α} : ∀ {a : List α}, (a ++ x :: b).modify a.length f = a ++ f x :: b
  | [] => rfl
  | y :: a => by rw [List.cons_append, List.length_cons, List.modify_succ_cons, modify_app]; rfl
theorem entV_app {a b : List (List Nat × Int × Nat)} : entV (a ++ b) = entV a ++ entV b := List.map_append
/-- the clock behind a put -/
def clkE : List (List Nat × Int × Nat) → List Nat → Nat → Nat
  | [], _, c => c + 1
  | e :: es, w, c => if w = e.1 then c else clkE es w c
theorem find_set {w : List Nat} {z : Int} {c : Nat} {k : List (V × V × Nat) → Nat → Out} : ∀ {es pre : List (List Nat × Int × Nat)}, findI tys tiS (.str w) (entV es) pre.length (k (entV (pre ++ es) ++ [(.str w, .int .i64 z, c)]) (c + 1))
    (fun i e => need (sameV e.1 (.str w)) (k ((entV (pre ++ es)).modify i fun e => (.str w, .int .i64 z, e.2.2)) c)) = k (entV (pre ++ setE es w z c)) (clkE es w c)
  | [], pre => by
    show k _ _ = _
    rw [List.append_nil, setE, entV_app]; rfl
  | e :: es, pre => by
    by_cases h : w = e.1
    · show findI tys tiS (.str w) ((.str e.1, .int .i64 e.2.1, e.2.2) :: entV es) pre.length _ _ = _
      rw [findI_cons, keyEq_str, eqT_str, eqStr_eq, decide_eq_true h]
      show need (sameV (.str e.1) (.str w)) _ = _
      rw [← h, same_str, setE, if_pos h, clkE, if_pos h, entV_app, entV_app]
      have e1 : (entV pre).length = pre.length := by unfold entV; rw [List.length_map]
      show k ((entV pre ++ (.str e.1, .int .i64 e.2.1, e.2.2) :: entV es).modify pre.length _) c = _
      rw [← e1, modify_app]; rfl
    · have hc := find_set (w := w) (z := z) (c := c) (k := k) (es := es) (pre := pre ++ [e])
      show findI tys tiS (.str w) ((.str e.1, .int .i64 e.2.1, e.2.2) :: entV es) pre.length _ _ = _
      rw [findI_cons, keyEq_str, eqT_str, eqStr_eq, decide_eq_false h, setE, if_neg h, clkE, if_neg h]
      rw [List.length_append, List.length_singleton, List.append_assoc, List.append_assoc] at hc
      exact hc

/-- a map that has these numbers -/
def CntAt (h : T O) (id : Nat) (f : List Nat → Int) : Prop := ∃ es c, h.get id = some (.map (entV es) c) ∧ ∀ w, getE es w = f w
theorem CntAt.look {h : T O} {id : Nat} {f : List Nat → Int} (M : CntAt h id f) {w : List Nat} {k : V → Out} : lookupK tys h 109 (.map id) (.str w) false k = k (.int .i64 (f w)) := by
  obtain ⟨es, c, hg, hf⟩ := M
  rw [lookup_eq, mapTy_eq, ty109, om_some, mapIn_map, ty9, om_some, ty3, om_some, keyOk_str, need_true, hg, om_some, oMap_map, keySelf, need_true, find_eq, ← hf]
  exact find_get
theorem CntAt.put {h : T O} {id : Nat} {f : List Nat → Int} (M : CntAt h id f) {w : List Nat} {z : Int} : ∃ o, (∀ k : T O → Out, mapPut tys h 109 (.map id) (.str w) (fun _ => .int .i64 z) (.int .i64 z) (fun h _ _ => k h) = k (h.put id (some o))) ∧
    ∀ h' : T O, h'.get id = some o → CntAt h' id fun u => if u = w then z else f u := by
  obtain ⟨es, c, hg, hf⟩ := M
  refine ⟨.map (entV (setE es w z c)) (clkE es w c), fun k => ?_, fun h' hh => ⟨_, _, hh, fun u => by rw [getE_set, hf]⟩⟩
  rw [mapPut_eq, mapTy_eq, ty109, om_some, mapIn_map, ty9, om_some, ty3, om_some, keyOk_str, need_true, keySelf, need_true, hg, om_some, oMap_map, find_eq]
  exact find_set (k := fun es c => k (h.put id (some (.map es c)))) (pre := [])

/-- rows that have keys -/
def OkRs (ls : List (List Tm)) : Prop := ls.length ≤ 100 ∧ ∀ i, i < ls.length → okR (ls.getD i [])
theorem OkRs.small {ls : List (List Tm)} (h : OkRs ls) : Small ls := fun i hi => Nat.le_trans (h.2 i hi).1 (by omega)
theorem entKey {h : T O} {r : V} {x : List Tm} (R : Row h r x) (ok : okR x) {fr : Fr} {cs : List Fr} {n : Nat} {go : Go_} {fin : Kv} : enterK env1 40 [r] fr cs h n go fin = fin (.str (keyR x)) h n := enterK_hook (keyHook_ok R ok)
theorem over_nil {α : Type} [DecidableEq α] {g : List α} : over g [] = g := rfl
theorem rem_nil {α : Type} [DecidableEq α] {g : List α} : rem g [] = [] := by unfold rem; rfl
theorem OutAt.weak {h : T O} {n0 m0 n : Nat} {v : V} {ls : List (List Tm)} (O : OutAt h n0 n v ls) (hm : m0 ≤ n0) : OutAt h m0 n v ls := by
  rcases O with q | ⟨id, t, rfl, g1, g2, g3, g4⟩
  · exact .inl q
  · exact .inr ⟨id, t, rfl, g1, by omega, g3, g4⟩

/-- rows without others, by the program -/
theorem less21_ok {h : T O} {n : Nat} {vl vo : V} {ls lo : List (List Tm)} (hl : RowsIn h n vl ls) (ho : RowsIn h n vo lo) (fl : OkRs ls) (fo : OkRs lo) :
    Fn env1 21 [vl, vo] h n (fun v h' n' => ∃ u, v = .tuple [u, .bool (decide ((ls.length : Int) - ((rem lo ls).length : Int) = (lo.length : Int)))] ∧ OutAt h' n n' u (rem lo ls) ∧ (rem lo ls = [] → u = .base (.slice none 0 0)) ∧ Gro h n h' n') := by
  refine Fn.mk fn21 rfl fz21 (by simp) fun Q cs K => ?_
  have lenA : ∀ {v : V} {l : List (List Tm)}, RowsIn h n v l → ∀ {h' : T O} {e : Nat} {k : V → Out}, lenIn h' (.slice e) v k = k (.int .i64 (l.length : Int)) := by
    intro v l ha h' e k
    obtain ⟨g, S, _⟩ := ha.rows
    generalize l.length = L at S ⊢
    cases S with
    | nil => exact lenIn_nil
    | tail => exact lenIn_tail
    | slice => exact lenIn_slice
  have l_len : ∀ {h' : T O} {e : Nat} {k : V → Out}, lenIn h' (.slice e) vl k = k (.int .i64 (ls.length : Int)) := lenA hl
  have o_len : ∀ {h' : T O} {e : Nat} {k : V → Out}, lenIn h' (.slice e) vo k = k (.int .i64 (lo.length : Int)) := lenA ho
  have fl1 := fl.1
  have fo1 := fo.1
  simp (maxSteps := 2000000) (disch := first | omega | assumption) only [↓mCode, ↓mOps, mAll, seval, vPtr, ite_ne, wrap_i64, boundN_int, e1_tys, e1_fns, fn21, Tryz.f21, l_len, o_len]
  refine W_loopE (fun m regs h' n' => ∃ (i : Nat), m = lo.length - i ∧ i ≤ lo.length ∧ regs.get 0 = some vl ∧ regs.get 1 = some vo ∧ regs.get 4 = some (.base (.slice none 0 0)) ∧ regs.get 6 = some (.map n) ∧ regs.get 13 = some vo ∧ regs.get 14 = some (.int .i64 (lo.length : Int)) ∧
      regs.get 15 = some (.int .i64 (i : Int)) ∧ (∃ f, CntAt h' n f ∧ ∀ x, f (keyR x) = (cnt (lo.take i) x : Int)) ∧ Gro h n h' n' ∧ n' = n + 1)
    (fun regs h' n' => regs.get 0 = some vl ∧ regs.get 1 = some vo ∧ regs.get 4 = some (.base (.slice none 0 0)) ∧ regs.get 6 = some (.map n) ∧ (∃ f, CntAt h' n f ∧ ∀ x, f (keyR x) = (cnt lo x : Int)) ∧ Gro h n h' n' ∧ n' = n + 1)
    _ ⟨0, rfl, by omega, ?_, ?_, ?_, ?_, ?_, ?_, ?_, ⟨fun _ => 0, ⟨[], 0, by rw [T.get_put, if_pos rfl]; rfl, fun w => rfl⟩, fun x => rfl⟩, (Gro.refl h n).put _, rfl⟩ ?_ ?_
  · simp (maxSteps := 2000000) (disch := first | omega | assumption) only [↓mCode, ↓mOps, mAll, seval, vPtr, ite_ne, wrap_i64, boundN_int, e1_tys]
  · simp (maxSteps := 2000000) (disch := first | omega | assumption) only [↓mCode, ↓mOps, mAll, seval, vPtr, ite_ne, wrap_i64, boundN_int, e1_tys]
  · simp (maxSteps := 2000000) (disch := first | omega | assumption) only [↓mCode, ↓mOps, mAll, seval, vPtr, ite_ne, wrap_i64, boundN_int, e1_tys]
  · simp (maxSteps := 2000000) (disch := first | omega | assumption) only [↓mCode, ↓mOps, mAll, seval, vPtr, ite_ne, wrap_i64, boundN_int, e1_tys]
  · simp (maxSteps := 2000000) (disch := first | omega | assumption) only [↓mCode, ↓mOps, mAll, seval, vPtr, ite_ne, wrap_i64, boundN_int, e1_tys]
  · simp (maxSteps := 2000000) (disch := first | omega | assumption) only [↓mCode, ↓mOps, mAll, seval, vPtr, ite_ne, wrap_i64, boundN_int, e1_tys]
  · simp (maxSteps := 2000000) (disch := first | omega | assumption) only [↓mCode, ↓mOps, mAll, seval, vPtr, ite_ne, wrap_i64, boundN_int, e1_tys] <;> rfl
  · rintro t hexit m regs h' n' ⟨i, e0, hi, r0, r1, r4, r6, r13, r14, r15, ⟨f, M, hf⟩, G, rfl⟩ IH
    by_cases c1 : i < lo.length
    · have c1' : ((i : Int) < (lo.length : Int)) = True := eq_true (by omega)
      obtain ⟨ida, ofa, exa, ka, loa, ra, hvl, hloa, hida, hca, hra⟩ := ho.get c1
      have hca := hca h' (G.2 ida hida)
      have hrx := hra.ext G
      have ek : ∀ {fr : Fr} {cs : List Fr} {n : Nat} {go : Go_} {fin : Kv}, enterK env1 40 [ra] fr cs h' n go fin = fin (.str (keyR (lo.getD i []))) h' n := entKey hrx.1 (fo.2 i c1)
      have lk : ∀ {w : List Nat} {k : V → Out}, lookupK tys h' 109 (.map n) (.str w) false k = k (.int .i64 (f w)) := M.look
      have hsn := take_snocR c1
      generalize lo.getD i [] = x at *
      have hx := hf x
      have hcl : cnt (lo.take i) x ≤ 1000000 := Nat.le_trans (cnt_le _ _) (by rw [List.length_take]; omega)
      obtain ⟨o, pk, pf⟩ := M.put (w := keyR x) (z := (cnt (lo.take i) x : Int) + 1)
      simp (maxSteps := 2000000) (disch := first | omega | assumption) only [↓mCode, ↓mOps, mAll, seval, vPtr, ite_ne, wrap_i64, boundN_int, e1_tys, e1_fns, fn21, Tryz.f21, r0, r1, r4, r6, r13, r14, r15, l_len, o_len, c1', hvl, hca, Nat.mul_one, ek, lk, hx, pk]
      refine IH (lo.length - (i + 1)) _ _ _ (by omega) ⟨i + 1, rfl, by omega, ?_, ?_, ?_, ?_, ?_, ?_, ?_, ⟨_, pf _ (by rw [T.get_put, if_pos rfl]), fun y => ?_⟩, ⟨by omega, fun j hj => by rw [T.get_put, if_neg (by omega)]; exact G.2 j hj⟩, rfl⟩
      iterate 7
        · simp only [mBase, Nat.reduceEqDiff, Nat.reduceSub, reduceIte, r0, r1, hvl, r4, r6, r13, r14, r15] <;> rfl
      · rw [hsn, cnt_snoc]
        by_cases e : y = x
        · subst e; rw [if_pos rfl, if_pos rfl]; rfl
        · rw [if_neg (fun q => e (keyR_inj q)), if_neg (fun q => e q.symm), hf]; rfl
    · have c1' : ((i : Int) < (lo.length : Int)) = False := eq_false (by omega)
      simp (maxSteps := 2000000) (disch := first | omega | assumption) only [↓mCode, ↓mOps, mAll, seval, vPtr, ite_ne, wrap_i64, boundN_int, e1_tys, e1_fns, fn21, Tryz.f21, r0, r1, r4, r6, r13, r14, r15, l_len, o_len, c1']
      refine hexit _ _ _ ⟨by simp only [mBase, Nat.reduceEqDiff, Nat.reduceSub, reduceIte, r0], by simp only [mBase, Nat.reduceEqDiff, Nat.reduceSub, reduceIte, r1], by simp only [mBase, Nat.reduceEqDiff, Nat.reduceSub, reduceIte, r4], by simp only [mBase, Nat.reduceEqDiff, Nat.reduceSub, reduceIte, r6], ⟨f, M, fun x => by rw [hf, List.take_of_length_le (by omega)]⟩, G, rfl⟩
  · rintro regs h1 n1 ⟨r0, r1, r4, r6, ⟨f, M, hf⟩, G, rfl⟩
    simp (maxSteps := 2000000) (disch := first | omega | assumption) only [↓mCode, ↓mOps, mAll, seval, vPtr, ite_ne, wrap_i64, boundN_int, e1_tys, e1_fns, fn21, Tryz.f21, r0, r1, r4, r6, l_len, o_len]
    refine W_loopE (fun m regs h' n' => ∃ (i : Nat) (acc : V), m = ls.length - i ∧ i ≤ ls.length ∧ regs.get 0 = some vl ∧ regs.get 1 = some vo ∧ regs.get 4 = some acc ∧ regs.get 6 = some (.map n) ∧ regs.get 25 = some vl ∧ regs.get 26 = some (.int .i64 (ls.length : Int)) ∧
        regs.get 27 = some (.int .i64 (i : Int)) ∧ (∃ f, CntAt h' n f ∧ ∀ x, f (keyR x) = (cnt (over lo (ls.take i)) x : Int)) ∧ Gro h n h' n' ∧ OutB h' n (n + 1) n' acc (rem lo (ls.take i)) ∧ (rem lo (ls.take i) = [] → acc = .base (.slice none 0 0)) ∧ n + 1 ≤ n')
      (fun regs h' n' => ∃ (acc : V), regs.get 0 = some vl ∧ regs.get 1 = some vo ∧ regs.get 4 = some acc ∧ Gro h n h' n' ∧ OutB h' n (n + 1) n' acc (rem lo ls) ∧ (rem lo ls = [] → acc = .base (.slice none 0 0)) ∧ n + 1 ≤ n')
      _ ⟨0, _, rfl, by omega, ?_, ?_, ?_, ?_, ?_, ?_, ?_, ⟨f, M, fun x => by rw [hf]; rfl⟩, G, .inl ⟨rfl, by rw [List.take_zero, rem_nil]⟩, fun _ => rfl, by omega⟩ ?_ ?_
    iterate 7
      · simp only [mBase, Nat.reduceEqDiff, Nat.reduceSub, reduceIte, r0, r1, r4, r6] <;> rfl
    · rintro t hexit m regs h' n' ⟨i, acc, e0, hi, r0, r1, r4, r6, r25, r26, r27, ⟨f, M, hf⟩, G, O, hnil, hn1⟩ IH
      by_cases c1 : i < ls.length
      · have c1' : ((i : Int) < (ls.length : Int)) = True := eq_true (by omega)
        obtain ⟨ida, ofa, exa, ka, loa, ra, hvl, hloa, hida, hca, hra⟩ := hl.get c1
        have hca := hca h' (G.2 ida hida)
        have hrx := hra.ext G
        have ek : ∀ {fr : Fr} {cs : List Fr} {n : Nat} {go : Go_} {fin : Kv}, enterK env1 40 [ra] fr cs h' n go fin = fin (.str (keyR (ls.getD i []))) h' n := entKey hrx.1 (fl.2 i c1)
        have lk : ∀ {w : List Nat} {k : V → Out}, lookupK tys h' 109 (.map n) (.str w) false k = k (.int .i64 (f w)) := M.look
        have hsn := take_snocR c1
        have hrl : (rem lo (ls.take i)).length ≤ i := Nat.le_trans (rem_le _ _) (by rw [List.length_take]; omega)
        generalize ls.getD i [] = x at *
        have hx := hf x
        have hcl : cnt (over lo (ls.take i)) x ≤ 1000000 := by
          have := count_over x (ls.take i) lo
          have h2 := cnt_le lo x
          unfold cnt at *; omega
        have one_r : oneV ra = true := hrx.1.one
        have cell_r : cellsOf ra = [ra] := cellsOf_one one_r
        by_cases c2 : x ∈ over lo (ls.take i)
        · have hp : 0 < cnt (over lo (ls.take i)) x := cnt_pos.2 c2
          have c2' : ((cnt (over lo (ls.take i)) x : Int) > 0) = True := eq_true (by omega)
          obtain ⟨o, pk, pf⟩ := M.put (w := keyR x) (z := (cnt (over lo (ls.take i)) x : Int) - 1)
          simp (maxSteps := 2000000) (disch := first | omega | assumption) only [↓mCode, ↓mOps, mAll, seval, vPtr, ite_ne, wrap_i64, boundN_int, e1_tys, e1_fns, fn21, Tryz.f21, r0, r1, r4, r6, r25, r26, r27, l_len, o_len, c1', hvl, hca, Nat.mul_one, ek, lk, hx, c2', pk]
          refine IH (ls.length - (i + 1)) _ _ _ (by omega) ⟨i + 1, acc, rfl, by omega, ?_, ?_, ?_, ?_, ?_, ?_, ?_, ⟨_, pf _ (by rw [T.get_put, if_pos rfl]), fun y => ?_⟩, ⟨by omega, fun j hj => by rw [T.get_put, if_neg (by omega)]; exact G.2 j hj⟩, ?_, ?_, hn1⟩
          iterate 7
            · simp only [mBase, Nat.reduceEqDiff, Nat.reduceSub, reduceIte, r0, hvl, r1, r4, r6, r25, r26, r27] <;> rfl
          · rw [hsn, over_snoc, cnt_erase]
            by_cases e : y = x
            · subst e; rw [if_pos rfl, if_pos rfl]; omega
            · rw [if_neg (fun q => e (keyR_inj q)), if_neg (fun q => e q.symm), hf]; rfl
          · rw [hsn, rem_in c2]
            exact O.keepAt (Nat.le_refl _) fun j hj => by rw [T.get_put, if_neg (by omega)]
          · rw [hsn, rem_in c2]; exact hnil
        · have hp : cnt (over lo (ls.take i)) x = 0 := by
            rcases Nat.eq_zero_or_pos (cnt (over lo (ls.take i)) x) with e | e
            · exact e
            · exact absurd (cnt_pos.1 e) c2
          rw [hp] at hx
          have c2' : (((0 : Nat) : Int) > 0) = False := eq_false (by omega)
          obtain ⟨v2, h2, n2, ap, O2, G2, hn2, hk2, hnil2⟩ := app_rowsB (h := h'.put n' (some (.cells (ofT [ra]) 1 1))) (b := n) (n0 := n + 1) (n := n' + 1) (acc := acc) (vn := .slice n' 0 1 true 1 1) (ls := rem lo (ls.take i)) (ln := [x]) (g := fun _ => ra)
            (O.keepAt (n' := n' + 1) (by omega) fun j hj => by rw [T.get_put, if_neg (by omega)]) (sl_one (T.get_put _ _ _ _ |>.trans (if_pos rfl)))
            (fun j hj => by
              have : j = 0 := by simpa using hj
              subst this
              exact ⟨hrx.1.keep fun q hq => by rw [T.get_put, if_neg (by have := hra.2 q hq; omega)], hra.2⟩)
            (fun j hj id hid e => by have a := O.take hid; have b := hra.2 id e; omega) (by simp; omega) (by omega) (by omega)
          simp (maxSteps := 2000000) (disch := first | omega | assumption) only [↓mCode, ↓mOps, mAll, seval, vPtr, ite_ne, wrap_i64, boundN_int, e1_tys, e1_fns, fn21, Tryz.f21, r0, r1, r4, r6, r25, r26, r27, l_len, o_len, c1', hvl, hca, Nat.mul_one, ek, lk, hx, c2', one_r, cell_r, src22_s, ap]
          refine IH (ls.length - (i + 1)) _ _ _ (by omega) ⟨i + 1, v2, rfl, by omega, ?_, ?_, ?_, ?_, ?_, ?_, ?_, ⟨f, ?_, fun y => ?_⟩, ⟨by omega, fun j hj => ?_⟩, ?_, ?_, by omega⟩
          iterate 7
            · simp only [mBase, Nat.reduceEqDiff, Nat.reduceSub, reduceIte, r0, hvl, r1, r4, r6, r25, r26, r27] <;> rfl
          · obtain ⟨es, c, q1, q2⟩ := M
            refine ⟨es, c, ?_, q2⟩
            rw [hk2 n (by omega) (fun e => by have := O.take e; omega), T.get_put, if_neg (by omega)]; exact q1
          · rw [hsn, over_out c2]; exact hf y
          · rw [G2.2 j (by omega), T.get_put, if_neg (by omega)]; exact G.2 j hj
          · rw [hsn, rem_out c2]; exact O2
          · rw [hsn, rem_out c2]; intro e; simp at e
      · have c1' : ((i : Int) < (ls.length : Int)) = False := eq_false (by omega)
        rw [List.take_of_length_le (by omega)] at O hnil
        simp (maxSteps := 2000000) (disch := first | omega | assumption) only [↓mCode, ↓mOps, mAll, seval, vPtr, ite_ne, wrap_i64, boundN_int, e1_tys, e1_fns, fn21, Tryz.f21, r0, r1, r4, r6, r25, r26, r27, l_len, o_len, c1']
        exact hexit _ _ _ ⟨acc, by simp only [mBase, Nat.reduceEqDiff, Nat.reduceSub, reduceIte, r0], by simp only [mBase, Nat.reduceEqDiff, Nat.reduceSub, reduceIte, r1], by simp only [mBase, Nat.reduceEqDiff, Nat.reduceSub, reduceIte, r4], G, O, hnil, hn1⟩
    · rintro regs h' n' ⟨acc, r0, r1, r4, G, O, hnil, hn1⟩
      have a_len : ∀ {e : Nat} {k : V → Out}, lenIn h' (.slice e) acc k = k (.int .i64 ((rem lo ls).length : Int)) := (O.out (by omega)).rows.len
      have hrl : (rem lo ls).length ≤ ls.length := rem_le _ _
      simp (maxSteps := 2000000) (disch := first | omega | assumption) only [↓mCode, ↓mOps, mAll, seval, vPtr, ite_ne, wrap_i64, boundN_int, e1_tys, e1_fns, fn21, Tryz.f21, r0, r1, r4, l_len, o_len, a_len]
      exact K _ _ _ ⟨acc, rfl, (O.out (by omega)).weak (by omega), hnil, G⟩
end Go.Mir
