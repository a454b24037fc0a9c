/- Walks: may a question be (the program)? -/
import Derived.Test.YthninknobjneeaaGreatDoorTexAF
import Derived.Test.YthninknobjneeaaGreatDoorTexAD
set_option linter.unusedSimpArgs false
set_option linter.unusedVariables false
namespace Go.Mir
open Go Go.Proofs
set_option maxRecDepth 4000
set_option maxHeartbeats 16000000

/- a map of texts to 1, by the texts in it -/
def entsFrom : List (List Nat) → Nat → List (V × V × Nat)
  | [], _ => []
  | w :: l, c => (.str w, .int .i64 1, c) :: entsFrom l (c + 1)
def addM (l : List (List Nat)) (w : List Nat) : List (List Nat) := if w ∈ l then l else l ++ [w]
theorem mem_addM {l : List (List Nat)} {w x : List Nat} : x ∈ addM l w ↔ x ∈ l ∨ x = w := by
  unfold addM
  split
  · rename_i h
    constructor
    · exact .inl
    · rintro (h2 | rfl)
      · exact h2
      · exact h
  · simp
theorem addM_len {l : List (List Nat)} {w : List Nat} : (addM l w).length ≤ l.length + 1 := by
  unfold addM
  split
  · omega
  · simp
theorem ents_snoc : ∀ {l : List (List Nat)} {w : List Nat} {c : Nat}, entsFrom l c ++ [(.str w, .int .i64 1, c + l.length)] = entsFrom (l ++ [w]) c
  | [], w, c => rfl
  | a :: l, w, c => by
    show _ :: (entsFrom l (c + 1) ++ [(.str w, .int .i64 1, c + (l.length + 1))]) = _ :: entsFrom (l ++ [w]) (c + 1)
    rw [← ents_snoc, show c + 1 + l.length = c + (l.length + 1) by omega]
abbrev tiS : TI := { kind := .string, size := 1, bytes := 16, zero := [.str []] }
theorem find_no {w : List Nat} {kn : Out} {k : Nat → V × V × Nat → Out} : ∀ {l : List (List Nat)} {c i : Nat}, w ∉ l → findI tys tiS (.str w) (entsFrom l c) i kn k = kn
  | [], _, _, _ => rfl
  | a :: l, c, i, h => by
    have h1 : ¬ w = a := fun e => h (by simp [e])
    rw [entsFrom, findI_cons, keyEq_str, eqT_str, eqStr_eq, decide_eq_false h1]
    exact find_no fun q => h (by simp [q])
theorem find_yes {w : List Nat} {kn : Out} {k : Nat → V × V × Nat → Out} : ∀ {l : List (List Nat)} {c i : Nat}, w ∈ l → ∃ a, (entsFrom l c)[a]? = some (.str w, .int .i64 1, c + a) ∧ findI tys tiS (.str w) (entsFrom l c) i kn k = k (i + a) (.str w, .int .i64 1, c + a)
  | [], _, _, h => by simp at h
  | x :: l, c, i, h => by
    rw [entsFrom]
    by_cases h1 : w = x
    · subst h1
      refine ⟨0, rfl, ?_⟩
      rw [findI_cons, keyEq_str, eqT_str, eqStr_eq, decide_eq_true rfl]; rfl
    · obtain ⟨a, h2, h3⟩ := find_yes (w := w) (kn := kn) (k := k) (l := l) (c := c + 1) (i := i + 1) (by simpa [h1] using h)
      refine ⟨a + 1, ?_, ?_⟩
      · rw [List.getElem?_cons_succ, h2, show c + 1 + a = c + (a + 1) by omega]
      · rw [findI_cons, keyEq_str, eqT_str, eqStr_eq, decide_eq_false h1]
        show findI tys tiS (.str w) (entsFrom l (c + 1)) (i + 1) kn k = _
        rw [h3, show i + 1 + a = i + (a + 1) by omega, show c + 1 + a = c + (a + 1) by omega]

def MapAt (h : T O) (id : Nat) (l : List (List Nat)) : Prop := h.get id = some (.map (entsFrom l 0) l.length)
theorem keySelf {w : List Nat} {kb : Bool → Out} : keyEq tys tiS (.str w) (.str w) kb = kb true := by rw [keyEq_str, eqT_str, eqStr_eq, decide_eq_true rfl]
theorem MapAt.look {h : T O} {id : Nat} {l : List (List Nat)} (M : MapAt h id l) {w : List Nat} {k : V → Out} : lookupK tys h 89 (.map id) (.str w) false k = k (.int .i64 (if w ∈ l then 1 else 0)) := by
  unfold MapAt at M
  rw [lookup_eq, mapTy_eq, ty89, om_some, mapIn_map, ty9, om_some, ty3, om_some, keyOk_str, need_true, M, om_some, oMap_map, keySelf, need_true, find_eq]
  by_cases h1 : w ∈ l
  · obtain ⟨a, h2, h3⟩ := find_yes (w := w) (kn := zeroV { kind := .int .i64, size := 1, bytes := 8, zero := [.int .i64 0] } k) (k := fun _ e => k e.2.1) (l := l) (c := 0) (i := 0) h1
    rw [h3, if_pos h1]
  · rw [find_no h1, if_neg h1]; rfl
theorem modify_self {α : Type _} {l : List α} {i : Nat} {x : α} {f : α → α} (h : l[i]? = some x) (hf : f x = x) : l.modify i f = l := by
  apply List.ext_getElem?
  intro j
  rw [List.getElem?_modify]
  by_cases e : i = j
  · subst e; rw [h]; simp [hf]
  · cases l[j]? <;> simp [e]
theorem MapAt.put {h : T O} {id : Nat} {l : List (List Nat)} (M : MapAt h id l) {w : List Nat} {k : T O → Out} :
    mapPut tys h 89 (.map id) (.str w) (fun _ => .int .i64 1) (.int .i64 1) (fun h _ _ => k h) = k (h.put id (some (.map (entsFrom (addM l w) 0) (addM l w).length))) := by
  unfold MapAt at M
  rw [mapPut_eq, mapTy_eq, ty89, om_some, mapIn_map, ty9, om_some, ty3, om_some, keyOk_str, need_true, keySelf, need_true, M, om_some, oMap_map, find_eq]
  by_cases h1 : w ∈ l
  · obtain ⟨a, h2, h3⟩ := find_yes (w := w) (kn := k (h.put id (some (.map (entsFrom l 0 ++ [(.str w, .int .i64 1, l.length)]) (l.length + 1)))))
      (k := fun i e => need (sameV e.1 (.str w)) (k (h.put id (some (.map ((entsFrom l 0).modify i fun e => (.str w, .int .i64 1, e.2.2)) l.length))))) (l := l) (c := 0) (i := 0) h1
    rw [h3, same_str, show addM l w = l from if_pos h1, modify_self (i := 0 + a) (x := (.str w, .int .i64 1, 0 + a)) (by rw [Nat.zero_add]; exact (by rw [Nat.zero_add] at h2; exact h2)) rfl]
  · rw [find_no h1, show addM l w = l ++ [w] from if_neg h1, ← ents_snoc, Nat.zero_add, List.length_append]; rfl

/- which variables -/
theorem mem_foldS {w : List Nat} : ∀ {ws l : List (List Nat)}, w ∈ ws.foldl addS l ↔ w ∈ l ∨ (w ≠ [] ∧ w ∈ ws)
  | [], l => by simp
  | x :: ws, l => by
    rw [List.foldl_cons, mem_foldS]
    unfold addS
    by_cases h1 : x ≠ [] ∧ x ∉ l
    · rw [if_pos h1]
      constructor
      · rintro (h | h)
        · rcases List.mem_append.1 h with h | h
          · exact .inl h
          · have : w = x := by simpa using h
            subst this; exact .inr ⟨h1.1, by simp⟩
        · exact .inr ⟨h.1, by simp [h.2]⟩
      · rintro (h | ⟨h, h2⟩)
        · exact .inl (by simp [h])
        · rcases List.mem_cons.1 h2 with rfl | h2
          · exact .inl (by simp)
          · exact .inr ⟨h, h2⟩
    · rw [if_neg h1]
      constructor
      · rintro (h | h)
        · exact .inl h
        · exact .inr ⟨h.1, by simp [h.2]⟩
      · rintro (h | ⟨h, h2⟩)
        · exact .inl h
        · rcases List.mem_cons.1 h2 with rfl | h2
          · exact .inl (Classical.byContradiction fun q => h1 ⟨h, q⟩)
          · exact .inr ⟨h, h2⟩
theorem mem_varsL {w : List Nat} {b : List LitT} : w ∈ varsL b ↔ w ≠ [] ∧ ∃ x ∈ b, w ∈ varsOf x := by
  unfold varsL
  rw [mem_foldS, List.mem_flatMap]
  simp
def holds (b : List LitT) : List LitT := b.filter fun x => decide (x.1 = 1)
theorem holds_snoc {l : List LitT} {i : Nat} (hi : i < l.length) : holds (l.take (i + 1)) = holds (l.take i) ++ (if (l.getD i zLit).1 = 1 then [l.getD i zLit] else []) := by
  unfold holds
  rw [List.take_succ_eq_append_getElem hi, List.filter_append, List.getD_eq_getElem?_getD, List.getElem?_eq_getElem hi]
  congr 1
  rw [List.filter_cons]
  simp

theorem LitIn.one {h : T O} {n m : Nat} {x : LitT} (hg : h.get m = some (.cells (ofT (litC x)) 21 21)) (hm : m < n) : LitIn h n (.slice m 0 1 true 1 1) [x] := by
  refine ⟨.slice _ _ _ _ _ _ (Nat.le_refl _) ⟨_, _, _, _, hg, .inl rfl, by omega, fun j hj => ?_⟩, fun id q => by cases q; exact hm⟩
  have hj' : j < 21 := hj
  rw [Nat.zero_add, ofT_get]
  unfold litG
  rw [show j / 21 = 0 by omega, show j % 21 = j by omega, List.getD_eq_getElem?_getD, List.getD_eq_getElem?_getD]
  show (litC x)[j]? = some ((litC x)[j]?.getD (.bool false))
  rw [List.getElem?_eq_getElem (by rw [litC_len]; exact hj')]
  rfl

theorem bound_ok {h : T O} {n : Nat} {v : V} {l : List LitT} (R : LitIn h n v l) (hl : l.length ≤ 1000) :
    Fn env0 34 [v] h n (fun u h' n' => ∃ L, u = .map n ∧ MapAt h' n L ∧ (∀ w, w ∈ L ↔ w ∈ varsL (holds l)) ∧ Gro h n h' n' ∧ n < n') := by
  refine Fn.mk fn34 rfl fz34 (by simp) fun Q cs K => ?_
  have len : ∀ {hh : T O} {e : Nat} {k : V → Out}, lenIn hh (.slice e) v k = k (.int .i64 (l.length : Int)) := fun {hh e k} => by
    have S := R.1
    generalize l.length = L at S
    cases S with
    | nil => exact lenIn_nil
    | tail => exact lenIn_tail
    | slice => exact lenIn_slice
  simp (maxSteps := 2000000) (disch := first | omega | assumption) only [↓mCode, ↓mOps, mAll, seval, vPtr, ite_ne, wrap_i64, boundN_int, fn34, Tryz.f34, len]
  refine W_loopE (fun q regs h1 n1 => ∃ (i : Nat) (L : List (List Nat)), q = l.length - i ∧ i ≤ l.length ∧ regs.get 3 = some (.map n) ∧ regs.get 9 = some v ∧ regs.get 10 = some (.int .i64 (l.length : Int)) ∧ regs.get 11 = some (.int .i64 (i : Int)) ∧
      MapAt h1 n L ∧ (∀ w, w ∈ L ↔ w ∈ varsL (holds (l.take i))) ∧ Gro h n h1 n1 ∧ n < n1)
    (fun regs h1 n1 => ∃ (L : List (List Nat)), regs.get 3 = some (.map n) ∧ MapAt h1 n L ∧ (∀ w, w ∈ L ↔ w ∈ varsL (holds l)) ∧ Gro h n h1 n1 ∧ n < n1)
    _ ⟨0, [], rfl, by omega, ?_, ?_, ?_, ?_, by unfold MapAt; rw [T.get_put, if_pos rfl]; rfl, fun w => Iff.rfl, (Gro.refl h n).put _, by omega⟩ ?_ ?_
  iterate 4
    · simp only [mBase, Nat.reduceEqDiff, Nat.reduceSub, reduceIte] <;> rfl
  · rintro tt hexit q regs h1 n1 ⟨i, L, rfl, hi, r3, r9, r10, r11, M, hL, G, hn1⟩ IH
    by_cases c1 : i < l.length
    · have c1' : ((i : Int) < (l.length : Int)) = True := eq_true (by omega)
      have R1 := R.ext G
      have hs := holds_snoc c1
      obtain ⟨id, off, ex, k, lo, rfl, hlo, hid, La⟩ := R1.get c1
      generalize l.getD i zLit = x at *
      have cX : ∀ {kk : List V → Out}, cellsAt h1 id (off + i * 21) 21 kk = kk (litC x) := fun {kk} => (La.cells (p := 0) (m := 21) (by omega) rfl).trans rfl
      have GX : ∀ o o' : O, Gro h1 n1 ((h1.put n1 (some o)).put n1 (some o')) (n1 + 1) := fun o o' => ((Gro.refl h1 n1).put _).set (Nat.le_refl _) _
      by_cases k1 : x.1 = 1
      · have q1 : (x.1 = 1) = True := eq_true k1
        rw [if_pos k1] at hs
        simp (maxSteps := 2000000) (disch := first | omega | assumption) only [↓mCode, ↓mOps, mAll, seval, vPtr, ite_ne, wrap_i64, boundN_int, fn34, Tryz.f34, mLit, mLay, ↓lay_0, decide_true, decide_false, r3, r9, r10, r11, c1', ↓cX, q1]
        refine (vars_ok (l := [x]) (LitIn.one (by rw [T.get_put, if_pos rfl]) (by omega)) (by simp)).call e0_hook e0_subs ?_
        rintro u h2 n2 ⟨B, G2⟩
        have G12 : Gro h1 n1 h2 n2 := ((GX _ _).put _).trans G2
        have M2 : MapAt h2 n L := by unfold MapAt; rw [G12.2 n hn1]; exact M
        have wl : (varsL [x]).length ≤ 3 := varsL_len (n := 1) (l := [x]) (by simp)
        have hmx : ∀ w, w ∈ varsL (holds (l.take (i + 1))) ↔ w ∈ varsL (holds (l.take i)) ∨ w ∈ varsL [x] := fun w => by
          rw [hs, mem_varsL, mem_varsL, mem_varsL]
          constructor
          · rintro ⟨h1, y, hy, h2⟩
            rcases List.mem_append.1 hy with hy | hy
            · exact .inl ⟨h1, y, hy, h2⟩
            · exact .inr ⟨h1, y, hy, h2⟩
          · rintro (⟨h1, y, hy, h2⟩ | ⟨h1, y, hy, h2⟩)
            · exact ⟨h1, y, by simp [hy], h2⟩
            · exact ⟨h1, y, by simp at hy; simp [hy], h2⟩
        generalize varsL [x] = ws at *
        have lenU : ∀ {hh : T O} {e : Nat} {k : V → Out}, lenIn hh (.slice e) u k = k (.int .i64 (ws.length : Int)) := fun {hh e k} => by
          have S := B.sl
          generalize ws.length = L at S
          cases S with
          | nil => exact lenIn_nil
          | tail => exact lenIn_tail
          | slice => exact lenIn_slice
        simp (maxSteps := 2000000) (disch := first | omega | assumption) only [↓mCode, ↓mOps, mAll, seval, vPtr, ite_ne, wrap_i64, boundN_int, fn34, Tryz.f34, r3, r9, r10, r11, lenU]
        refine W_loopE (fun q rg h3 n3 => ∃ (j : Nat) (L3 : List (List Nat)), q = ws.length - j ∧ j ≤ ws.length ∧ rg.get 3 = some (.map n) ∧ rg.get 9 = some (.slice id off l.length ex k lo) ∧ rg.get 10 = some (.int .i64 (l.length : Int)) ∧ rg.get 11 = some (.int .i64 (i : Int)) ∧
            rg.get 20 = some u ∧ rg.get 21 = some (.int .i64 (ws.length : Int)) ∧ rg.get 22 = some (.int .i64 (j : Int)) ∧ MapAt h3 n L3 ∧ (∀ w, w ∈ L3 ↔ w ∈ L ∨ w ∈ ws.take j) ∧ n3 = n2 ∧ (∀ a, a ≠ n → h3.get a = h2.get a))
          (fun rg h3 n3 => ∃ (L3 : List (List Nat)), rg.get 3 = some (.map n) ∧ rg.get 9 = some (.slice id off l.length ex k lo) ∧ rg.get 10 = some (.int .i64 (l.length : Int)) ∧ rg.get 11 = some (.int .i64 (i : Int)) ∧
            MapAt h3 n L3 ∧ (∀ w, w ∈ L3 ↔ w ∈ L ∨ w ∈ ws) ∧ n3 = n2 ∧ (∀ a, a ≠ n → h3.get a = h2.get a))
          _ ⟨0, L, rfl, by omega, ?_, ?_, ?_, ?_, ?_, ?_, ?_, M2, fun w => by simp, rfl, fun a _ => rfl⟩ ?_ ?_
        iterate 7
          · simp only [mBase, Nat.reduceEqDiff, Nat.reduceSub, reduceIte, r3, r9, r10, r11] <;> rfl
        · rintro t3 hexit2 q rg h3 n3 ⟨j, L3, rfl, hj, s3, s9, s10, s11, s20, s21, s22, M3, hL3, rfl, hk⟩ IH2
          by_cases d1 : j < ws.length
          · have d1' : ((j : Int) < (ws.length : Int)) = True := eq_true (by omega)
            have B3 : SBuf h3 n3 (n1 + 1 + 1) u ws := B.hi fun a ha => hk a (by omega)
            obtain ⟨id2, off2, ex2, k2, lo2, rfl, hlo2, hc2⟩ := B3.sl.get1 d1
            have ts : ∀ w, w ∈ ws.take (j + 1) ↔ w ∈ ws.take j ∨ w = ws.getD j [] := fun w => by
              rw [List.take_succ_eq_append_getElem d1, List.getD_eq_getElem?_getD, List.getElem?_eq_getElem d1, List.mem_append, List.mem_singleton]; rfl
            generalize ws.getD j [] = w at *
            have pm : ∀ {k : T O → Out}, mapPut tys h3 89 (.map n) (.str w) (fun _ => .int .i64 1) (.int .i64 1) (fun h _ _ => k h) = k (h3.put n (some (.map (entsFrom (addM L3 w) 0) (addM L3 w).length))) := M3.put
            simp (maxSteps := 2000000) (disch := first | omega | assumption) only [↓mCode, ↓mOps, mAll, seval, vPtr, ite_ne, wrap_i64, boundN_int, fn34, Tryz.f34, s3, s9, s10, s11, s20, s21, s22, d1', ↓hc2, pm]
            refine IH2 (ws.length - (j + 1)) _ _ _ (by omega) ⟨j + 1, addM L3 w, rfl, by omega, ?_, ?_, ?_, ?_, ?_, ?_, ?_, by unfold MapAt; rw [T.get_put, if_pos rfl], fun y => by rw [mem_addM, hL3, ts, or_assoc], rfl, fun a ha => by rw [T.get_put, if_neg ha, hk a ha]⟩
            iterate 7
              · simp only [mBase, Nat.reduceEqDiff, Nat.reduceSub, reduceIte, s3, s9, s10, s11, s20, s21, s22] <;> rfl
          · have e : j = ws.length := by omega
            have d1' : ((j : Int) < (ws.length : Int)) = False := eq_false (by omega)
            subst e
            simp (maxSteps := 2000000) (disch := first | omega | assumption) only [↓mCode, ↓mOps, mAll, seval, vPtr, ite_ne, wrap_i64, boundN_int, fn34, Tryz.f34, s3, s9, s10, s11, s20, s21, s22, d1']
            exact hexit2 _ _ _ ⟨L3, by simp only [mBase, Nat.reduceEqDiff, Nat.reduceSub, reduceIte, s3], by simp only [mBase, Nat.reduceEqDiff, Nat.reduceSub, reduceIte, s9], by simp only [mBase, Nat.reduceEqDiff, Nat.reduceSub, reduceIte, s10], by simp only [mBase, Nat.reduceEqDiff, Nat.reduceSub, reduceIte, s11], M3, fun w => by rw [hL3, List.take_length], rfl, hk⟩
        · rintro rg h3 n3 ⟨L3, s3, s9, s10, s11, M3, hL3, rfl, hk⟩
          simp (maxSteps := 2000000) (disch := first | omega | assumption) only [↓mCode, ↓mOps, mAll, seval, vPtr, ite_ne, wrap_i64, boundN_int, fn34, Tryz.f34, s3, s9, s10, s11]
          refine IH (l.length - (i + 1)) _ _ _ (by omega) ⟨i + 1, L3, rfl, by omega, ?_, ?_, ?_, ?_, M3, fun w => by rw [hL3, hmx, hL], ⟨by have := G.1; have := G12.1; omega, fun a ha => by rw [hk a (by omega), G12.2 a (by omega), G.2 a ha]⟩, by have := G12.1; omega⟩
          iterate 4
            · simp only [mBase, Nat.reduceEqDiff, Nat.reduceSub, reduceIte, s3, s9, s10, s11] <;> rfl
      · have q1 : (x.1 = 1) = False := eq_false k1
        rw [if_neg k1, List.append_nil] at hs
        simp (maxSteps := 2000000) (disch := first | omega | assumption) only [↓mCode, ↓mOps, mAll, seval, vPtr, ite_ne, wrap_i64, boundN_int, fn34, Tryz.f34, mLit, mLay, ↓lay_0, decide_true, decide_false, r3, r9, r10, r11, c1', ↓cX, q1]
        refine IH (l.length - (i + 1)) _ _ _ (by omega) ⟨i + 1, L, rfl, by omega, ?_, ?_, ?_, ?_, by unfold MapAt; rw [(GX _ _).2 n hn1]; exact M, fun w => by rw [hs]; exact hL w, G.trans (GX _ _), by omega⟩
        iterate 4
          · simp only [mBase, Nat.reduceEqDiff, Nat.reduceSub, reduceIte, r3, r9, r10, r11] <;> rfl
    · have e : i = l.length := by omega
      have c1' : ((i : Int) < (l.length : Int)) = False := eq_false (by omega)
      subst e
      simp (maxSteps := 2000000) (disch := first | omega | assumption) only [↓mCode, ↓mOps, mAll, seval, vPtr, ite_ne, wrap_i64, boundN_int, fn34, Tryz.f34, r3, r9, r10, r11, c1']
      exact hexit _ _ _ ⟨L, by simp only [mBase, Nat.reduceEqDiff, Nat.reduceSub, reduceIte, r3], M, by rwa [List.take_length] at hL, G, hn1⟩
  · rintro regs h1 n1 ⟨L, r3, M, hL, G, hn1⟩
    simp (maxSteps := 2000000) (disch := first | omega | assumption) only [↓mCode, ↓mOps, mAll, seval, vPtr, ite_ne, wrap_i64, boundN_int, fn34, Tryz.f34, r3]
    exact K _ _ _ ⟨L, rfl, M, hL, G, hn1⟩
end Go.Mir
namespace Go.Mir
open Go Go.Proofs
set_option maxRecDepth 4000
set_option maxHeartbeats 32000000

def StrIn (h : T O) (n : Nat) (v : V) (l : List (List Nat)) : Prop := Sl h 1 (strG l) v l.length ∧ ∀ id, vid v = some id → id < n
theorem StrIn.ext {h h' : T O} {n n' : Nat} {v : V} {l : List (List Nat)} (R : StrIn h n v l) (E : Gro h n h' n') : StrIn h' n' v l :=
  ⟨R.1.keep fun id hv => E.2 id (R.2 id hv), fun id hv => Nat.lt_of_lt_of_le (R.2 id hv) E.1⟩
theorem Sl.lenA {h : T O} {esz : Nat} {g : Nat → V} {v : V} {len : Nat} (S : Sl h esz g v len) {hh : T O} {e : Nat} {k : V → Out} : lenIn hh (.slice e) v k = k (.int .i64 (len : Int)) := by
  cases S with
  | nil => exact lenIn_nil
  | tail => exact lenIn_tail
  | slice => exact lenIn_slice

theorem cell_of {h : T O} {id p m e : Nat} {l : List V} {y : V} (hg : h.get id = some (.cells (ofT l) m e)) (hp : p < m) (hy : l[p]? = some y) {kk : V → Out} : cellAt h id p kk = kk y := by
  rw [cellAt_eq, hg, om_some, rCells_cells, need_ble (by omega), ofT_get, hy, om_some]

/-- a question that may be -/
def OkQ (ask dist : Bool) (vars : List (List Nat)) (body : List LitT) : Prop :=
  1 ≤ body.length ∧ body.length ≤ 64 ∧ vars.length ≤ 32 ∧ ask ≠ decide (0 < vars.length) ∧ ¬ (ask = true ∧ dist = true) ∧ (∀ i, i < body.length → (body.getD i zLit).1 ≠ 2 ∧ mayL (body.getD i zLit) = true) ∧
    (∀ w, w ∈ varsL body → w ∈ varsL (holds body)) ∧ ∀ i, i < vars.length → vars.getD i [] ∈ varsL (holds body) ∧ vars.getD i [] ∉ vars.take i
noncomputable def mayQ (ask dist : Bool) (vars : List (List Nat)) (body : List LitT) : Bool := @decide (OkQ ask dist vars body) (Classical.propDecidable _)
theorem mayQ_t {ask dist : Bool} {vars : List (List Nat)} {body : List LitT} (h : OkQ ask dist vars body) : mayQ ask dist vars body = true := @decide_eq_true _ (Classical.propDecidable _) h
theorem mayQ_f {ask dist : Bool} {vars : List (List Nat)} {body : List LitT} (h : ¬ OkQ ask dist vars body) : mayQ ask dist vars body = false := @decide_eq_false _ (Classical.propDecidable _) h

section
variable {k : V → Out}
theorem eqB_ok {a b : Bool} : binK tys .eql 4 (.bool a) (.bool b) k = k (.bool (decide (a = b))) := by
  show (om (tys.get 4) fun ti => eqT tys 20 ti (.bool a) (.bool b) fun r => k (.bool r)) = _
  rw [ty4, om_some]
  show fB (Bool.rec (not b) b a) (fun r => k (.bool r)) = _
  rw [fB_eq]
  cases a <;> cases b <;> rfl
theorem eqB_tt : binK tys .eql 4 (.bool true) (.bool true) k = k (.bool true) := eqB_ok
theorem eqB_tf : binK tys .eql 4 (.bool true) (.bool false) k = k (.bool false) := eqB_ok
theorem eqB_ft : binK tys .eql 4 (.bool false) (.bool true) k = k (.bool false) := eqB_ok
theorem eqB_ff : binK tys .eql 4 (.bool false) (.bool false) k = k (.bool true) := eqB_ok
end
theorem mem_takeN {ws : List (List Nat)} {j : Nat} (hj : j < ws.length) {w : List Nat} : w ∈ ws.take (j + 1) ↔ w ∈ ws.take j ∨ w = ws.getD j [] := by
  rw [List.take_succ_eq_append_getElem hj, List.getD_eq_getElem?_getD, List.getElem?_eq_getElem hj, List.mem_append, List.mem_singleton]; rfl

theorem mayQ36_ok {h : T O} {n : Nat} {vv vb : V} {ask dist : Bool} {vars : List (List Nat)} {body : List LitT} (Rv : StrIn h n vv vars) (Rb : LitIn h n vb body) (gb : ∀ i, i < body.length → GdL (body.getD i zLit)) :
    Fn env0 18 [.agg [.bool ask, .bool dist, vv, vb]] h n (fun u h' n' => u = .bool (mayQ ask dist vars body) ∧ Gro h n h' n') := by
  refine Fn.mk fn18 rfl fz18 (by simp) fun Q cs K => ?_
  have lenB : ∀ {hh : T O} {e : Nat} {k : V → Out}, lenIn hh (.slice e) vb k = k (.int .i64 (body.length : Int)) := Rb.1.lenA
  have lenV : ∀ {hh : T O} {e : Nat} {k : V → Out}, lenIn hh (.slice e) vv k = k (.int .i64 (vars.length : Int)) := Rv.1.lenA
  generalize hhB : h.put n (some (.cells (ofT [V.bool ask, V.bool dist, vv, vb]) 4 4)) = hB
  have GB : Gro h n hB (n + 1) := by rw [← hhB]; exact (Gro.refl h n).put _
  have gn : hB.get n = some (.cells (ofT [V.bool ask, V.bool dist, vv, vb]) 4 4) := by rw [← hhB, T.get_put, if_pos rfl]
  have f0 : ∀ {kk : V → Out}, cellAt hB n 0 kk = kk (.bool ask) := fun {kk} => cell_of gn (by omega) rfl
  have f1 : ∀ {kk : V → Out}, cellAt hB n 1 kk = kk (.bool dist) := fun {kk} => cell_of gn (by omega) rfl
  have f2 : ∀ {kk : V → Out}, cellAt hB n 2 kk = kk vv := fun {kk} => cell_of gn (by omega) rfl
  have f3 : ∀ {kk : V → Out}, cellAt hB n 3 kk = kk vb := fun {kk} => cell_of gn (by omega) rfl
  refine' (fun rest : (∀ rg : T V, rg.get 1 = some (.ptr n 0) → rg.get 47 = some vb → rg.get 48 = some (.int .i64 (body.length : Int)) → rg.get 49 = some (.int .i64 ((0 : Nat) : Int)) → 1 ≤ body.length → body.length ≤ 64 → vars.length ≤ 32 → ask ≠ decide (0 < vars.length) → ¬ (ask = true ∧ dist = true) →
      W env0 Q (fun go => go ⟨18, 103, [], none⟩ rg _ cs hB (n + 1))) => ?_) ?_
  rotate_left
  · by_cases a1 : body.length < 1
    · have p1 : ((body.length : Int) < 1) = True := eq_true (by omega)
      simp (maxSteps := 2000000) (disch := first | omega | assumption) only [↓mCode, ↓mOps, mAll, seval, vPtr, ite_ne, wrap_i64, boundN_int, fn18, Tryz.f18, mLit, mLay, ↓lay_0, eqB_tt, eqB_tf, eqB_ft, eqB_ff, eq_self, Bool.false_eq_true, decide_true, decide_false, lenB, lenV, hhB, f0, f1, f2, f3, p1]
      exact K _ _ _ ⟨by rw [mayQ_f fun o => by have := o.1; omega], GB⟩
    have p1 : ((body.length : Int) < 1) = False := eq_false (by omega)
    by_cases a2 : 64 < body.length
    · have p2 : ((64 : Int) < (body.length : Int)) = True := eq_true (by omega)
      simp (maxSteps := 2000000) (disch := first | omega | assumption) only [↓mCode, ↓mOps, mAll, seval, vPtr, ite_ne, wrap_i64, boundN_int, fn18, Tryz.f18, mLit, mLay, ↓lay_0, eqB_tt, eqB_tf, eqB_ft, eqB_ff, eq_self, Bool.false_eq_true, decide_true, decide_false, lenB, lenV, hhB, f0, f1, f2, f3, p1, p2]
      exact K _ _ _ ⟨by rw [mayQ_f fun o => by have := o.2.1; omega], GB⟩
    have p2 : ((64 : Int) < (body.length : Int)) = False := eq_false (by omega)
    by_cases a3 : 32 < vars.length
    · have p3 : ((32 : Int) < (vars.length : Int)) = True := eq_true (by omega)
      simp (maxSteps := 2000000) (disch := first | omega | assumption) only [↓mCode, ↓mOps, mAll, seval, vPtr, ite_ne, wrap_i64, boundN_int, fn18, Tryz.f18, mLit, mLay, ↓lay_0, eqB_tt, eqB_tf, eqB_ft, eqB_ff, eq_self, Bool.false_eq_true, decide_true, decide_false, lenB, lenV, hhB, f0, f1, f2, f3, p1, p2, p3]
      exact K _ _ _ ⟨by rw [mayQ_f fun o => by have := o.2.2.1; omega], GB⟩
    have p3 : ((32 : Int) < (vars.length : Int)) = False := eq_false (by omega)
    cases ask with
    | true =>
      by_cases a4 : 0 < vars.length
      · have p4 : ((0 : Int) < (vars.length : Int)) = True := eq_true (by omega)
        simp (maxSteps := 2000000) (disch := first | omega | assumption) only [↓mCode, ↓mOps, mAll, seval, vPtr, ite_ne, wrap_i64, boundN_int, fn18, Tryz.f18, mLit, mLay, ↓lay_0, eqB_tt, eqB_tf, eqB_ft, eqB_ff, eq_self, Bool.false_eq_true, decide_true, decide_false, lenB, lenV, hhB, f0, f1, f2, f3, p1, p2, p3, p4]
        exact K _ _ _ ⟨by rw [mayQ_f fun o => o.2.2.2.1 (by simp [a4])], GB⟩
      have p4 : ((0 : Int) < (vars.length : Int)) = False := eq_false (by omega)
      cases dist with
      | true =>
        simp (maxSteps := 2000000) (disch := first | omega | assumption) only [↓mCode, ↓mOps, mAll, seval, vPtr, ite_ne, wrap_i64, boundN_int, fn18, Tryz.f18, mLit, mLay, ↓lay_0, eqB_tt, eqB_tf, eqB_ft, eqB_ff, eq_self, Bool.false_eq_true, decide_true, decide_false, lenB, lenV, hhB, f0, f1, f2, f3, p1, p2, p3, p4]
        exact K _ _ _ ⟨by rw [mayQ_f fun o => o.2.2.2.2.1 ⟨rfl, rfl⟩], GB⟩
      | false =>
        simp (maxSteps := 2000000) (disch := first | omega | assumption) only [↓mCode, ↓mOps, mAll, seval, vPtr, ite_ne, wrap_i64, boundN_int, fn18, Tryz.f18, mLit, mLay, ↓lay_0, eqB_tt, eqB_tf, eqB_ft, eqB_ff, eq_self, Bool.false_eq_true, decide_true, decide_false, lenB, lenV, hhB, f0, f1, f2, f3, p1, p2, p3, p4]
        refine rest _ ?_ ?_ ?_ ?_ (by omega) (by omega) (by omega) (by simp [a4]) (by simp)
        iterate 4
          · simp only [mBase, Nat.reduceEqDiff, Nat.reduceSub, reduceIte] <;> rfl
    | false =>
      by_cases a4 : 0 < vars.length
      · have p4 : ((0 : Int) < (vars.length : Int)) = True := eq_true (by omega)
        simp (maxSteps := 2000000) (disch := first | omega | assumption) only [↓mCode, ↓mOps, mAll, seval, vPtr, ite_ne, wrap_i64, boundN_int, fn18, Tryz.f18, mLit, mLay, ↓lay_0, eqB_tt, eqB_tf, eqB_ft, eqB_ff, eq_self, Bool.false_eq_true, decide_true, decide_false, lenB, lenV, hhB, f0, f1, f2, f3, p1, p2, p3, p4]
        refine rest _ ?_ ?_ ?_ ?_ (by omega) (by omega) (by omega) (by simp [a4]) (by simp)
        iterate 4
          · simp only [mBase, Nat.reduceEqDiff, Nat.reduceSub, reduceIte] <;> rfl
      · have p4 : ((0 : Int) < (vars.length : Int)) = False := eq_false (by omega)
        simp (maxSteps := 2000000) (disch := first | omega | assumption) only [↓mCode, ↓mOps, mAll, seval, vPtr, ite_ne, wrap_i64, boundN_int, fn18, Tryz.f18, mLit, mLay, ↓lay_0, eqB_tt, eqB_tf, eqB_ft, eqB_ff, eq_self, Bool.false_eq_true, decide_true, decide_false, lenB, lenV, hhB, f0, f1, f2, f3, p1, p2, p3, p4]
        exact K _ _ _ ⟨by rw [mayQ_f fun o => o.2.2.2.1 (by simp [a4])], GB⟩
  · intro rg0 b1 b47 b48 b49 a1 a2 a3 HQ1 HQ2
    refine W_loopE (fun q regs h1 n1 => ∃ (i : Nat), q = body.length - i ∧ i ≤ body.length ∧ regs.get 1 = some (.ptr n 0) ∧ regs.get 47 = some vb ∧ regs.get 48 = some (.int .i64 (body.length : Int)) ∧ regs.get 49 = some (.int .i64 (i : Int)) ∧
        (∀ j, j < i → (body.getD j zLit).1 ≠ 2 ∧ mayL (body.getD j zLit) = true) ∧ Gro hB (n + 1) h1 n1)
      (fun regs h1 n1 => regs.get 1 = some (.ptr n 0) ∧ (∀ j, j < body.length → (body.getD j zLit).1 ≠ 2 ∧ mayL (body.getD j zLit) = true) ∧ Gro hB (n + 1) h1 n1)
      _ ⟨0, rfl, by omega, ?_, ?_, ?_, ?_, fun j hj => absurd hj (by omega), Gro.refl _ _⟩ ?_ ?_
    · exact b1
    · exact b47
    · exact b48
    · exact b49
    · rintro tt hexit q regs h1 n1 ⟨i, rfl, hi, r1, r47, r48, r49, hok, G⟩ IH
      by_cases c1 : i < body.length
      · have c1' : ((i : Int) < (body.length : Int)) = True := eq_true (by omega)
        have G0 : Gro h n h1 n1 := GB.trans G
        have Rb1 := Rb.ext G0
        have gx := gb i c1
        obtain ⟨id, off, ex, k, lo, rfl, hlo, hid, La⟩ := Rb1.get c1
        have hne : (body.getD i zLit).1 = 2 ∨ mayL (body.getD i zLit) = false → ¬ OkQ ask dist vars body := fun z o => by
          have := o.2.2.2.2.2.1 i c1
          rcases z with z | z
          · exact this.1 z
          · rw [this.2] at z; cases z
        have hyes : (body.getD i zLit).1 ≠ 2 → mayL (body.getD i zLit) = true → ∀ j, j < i + 1 → (body.getD j zLit).1 ≠ 2 ∧ mayL (body.getD j zLit) = true := fun z1 z2 j hj => by
          by_cases e : j = i
          · subst e; exact ⟨z1, z2⟩
          · exact hok j (by omega)
        generalize body.getD i zLit = x at *
        have cX : ∀ {kk : List V → Out}, cellsAt h1 id (off + i * 21) 21 kk = kk (litC x) := fun {kk} => (La.cells (p := 0) (m := 21) (by omega) rfl).trans rfl
        have GX : ∀ o o' : O, Gro h1 n1 ((h1.put n1 (some o)).put n1 (some o')) (n1 + 1) := fun o o' => ((Gro.refl h1 n1).put _).set (Nat.le_refl _) _
        simp (maxSteps := 2000000) (disch := first | omega | assumption) only [↓mCode, ↓mOps, mAll, seval, vPtr, ite_ne, wrap_i64, boundN_int, fn18, Tryz.f18, mLit, mLay, ↓lay_0, eqB_tt, eqB_tf, eqB_ft, eqB_ff, eq_self, Bool.false_eq_true, decide_true, decide_false, lenB, lenV, r1, r47, r48, r49, c1', ↓cX]
        refine (PartText_ok gx).call e0_hook e0_subs ?_
        rintro _ h2 n2 ⟨⟨tx, rfl⟩, G2⟩
        have L2 : LitAt h2 n1 0 x := (LitAt.lay (by rw [T.get_put, if_pos rfl]) (by omega)).keep (G2.2 n1 (by omega))
        have cK : ∀ {kk : V → Out}, cellAt h2 n1 0 kk = kk (.int .i64 x.1) := fun {kk} => L2.cell (p := 0) (by omega) rfl rfl
        have G3 : Gro hB (n + 1) h2 n2 := G.trans ((GX _ _).trans G2)
        cases b : mayL x with
        | false =>
          simp (maxSteps := 2000000) (disch := first | omega | assumption) only [↓mCode, ↓mOps, mAll, seval, vPtr, ite_ne, wrap_i64, boundN_int, fn18, Tryz.f18, mLit, mLay, ↓lay_0, eqB_tt, eqB_tf, eqB_ft, eqB_ff, eq_self, Bool.false_eq_true, decide_true, decide_false, lenB, lenV, r1, r47, r48, r49]
          exact K _ _ _ ⟨by rw [mayQ_f (hne (.inr b))], GB.trans G3⟩
        | true =>
          by_cases z : x.1 = 2
          · have z' : (x.1 = 2) = True := eq_true z
            simp (maxSteps := 2000000) (disch := first | omega | assumption) only [↓mCode, ↓mOps, mAll, seval, vPtr, ite_ne, wrap_i64, boundN_int, fn18, Tryz.f18, mLit, mLay, ↓lay_0, eqB_tt, eqB_tf, eqB_ft, eqB_ff, eq_self, Bool.false_eq_true, decide_true, decide_false, lenB, lenV, r1, r47, r48, r49, cK, z']
            exact K _ _ _ ⟨by rw [mayQ_f (hne (.inl z))], GB.trans G3⟩
          · have z' : (x.1 = 2) = False := eq_false z
            simp (maxSteps := 2000000) (disch := first | omega | assumption) only [↓mCode, ↓mOps, mAll, seval, vPtr, ite_ne, wrap_i64, boundN_int, fn18, Tryz.f18, mLit, mLay, ↓lay_0, eqB_tt, eqB_tf, eqB_ft, eqB_ff, eq_self, Bool.false_eq_true, decide_true, decide_false, lenB, lenV, r1, r47, r48, r49, cK, z']
            refine IH (body.length - (i + 1)) _ _ _ (by omega) ⟨i + 1, rfl, by omega, ?_, ?_, ?_, ?_, hyes z b, G3⟩
            iterate 4
              · simp only [mBase, Nat.reduceEqDiff, Nat.reduceSub, reduceIte, r1, r47, r48, r49] <;> rfl
      · have e : i = body.length := by omega
        have c1' : ((i : Int) < (body.length : Int)) = False := eq_false (by omega)
        simp (maxSteps := 2000000) (disch := first | omega | assumption) only [↓mCode, ↓mOps, mAll, seval, vPtr, ite_ne, wrap_i64, boundN_int, fn18, Tryz.f18, mLit, mLay, ↓lay_0, eqB_tt, eqB_tf, eqB_ft, eqB_ff, eq_self, Bool.false_eq_true, decide_true, decide_false, lenB, lenV, r1, r47, r48, r49, c1']
        exact hexit _ _ _ ⟨by simp only [mBase, Nat.reduceEqDiff, Nat.reduceSub, reduceIte, r1], fun j hj => hok j (by omega), G⟩
    · rintro regs h1 n1 ⟨r1, hok, G⟩
      have G0 : Gro h n h1 n1 := GB.trans G
      have gn1 : h1.get n = some (.cells (ofT [V.bool ask, V.bool dist, vv, vb]) 4 4) := by rw [G.2 n (by omega)]; exact gn
      have b3 : ∀ {kk : V → Out}, cellAt h1 n 3 kk = kk vb := fun {kk} => cell_of gn1 (by omega) rfl
      simp (maxSteps := 2000000) (disch := first | omega | assumption) only [↓mCode, ↓mOps, mAll, seval, vPtr, ite_ne, wrap_i64, boundN_int, fn18, Tryz.f18, mLit, mLay, ↓lay_0, eqB_tt, eqB_tf, eqB_ft, eqB_ff, eq_self, Bool.false_eq_true, decide_true, decide_false, lenB, lenV, r1, b3]
      refine (bound_ok (Rb.ext G0) (by omega)).call e0_hook e0_subs ?_
      rintro _ h2 n2 ⟨L, rfl, Mp, hL, G2, hn2⟩
      have G02 : Gro h n h2 n2 := G0.trans G2
      have b3' : ∀ {kk : V → Out}, cellAt h2 n 3 kk = kk vb := fun {kk} => cell_of ((G2.2 n (by have := G.1; omega)).trans gn1) (by omega) rfl
      have nen : (n = n2) = False := eq_false (by have := G02.1; have := G.1; have := G2.1; omega)
      simp (maxSteps := 2000000) (disch := first | omega | assumption) only [↓mCode, ↓mOps, mAll, seval, vPtr, ite_ne, wrap_i64, boundN_int, fn18, Tryz.f18, mLit, mLay, ↓lay_0, eqB_tt, eqB_tf, eqB_ft, eqB_ff, eq_self, Bool.false_eq_true, decide_true, decide_false, lenB, lenV, r1, b3', nen]
      refine (vars_ok (Rb.ext (G02.put _)) (by omega)).call e0_hook e0_subs ?_
      rintro u h3 n3 ⟨B, G3⟩
      have G13 : Gro h1 n1 h3 n3 := (G2.put _).trans G3
      have G03 : Gro h n h3 n3 := G0.trans G13
      have Mp3 : MapAt h3 n1 L := by unfold MapAt; rw [G3.2 n1 (by omega), T.get_put, if_neg (by omega)]; exact Mp
      have Ms3 : MapAt h3 n2 [] := by unfold MapAt; rw [G3.2 n2 (by omega), T.get_put, if_pos rfl]; rfl
      have gn3 : h3.get n = some (.cells (ofT [V.bool ask, V.bool dist, vv, vb]) 4 4) := by rw [G13.2 n (by have := G.1; omega)]; exact gn1
      have wl : (varsL body).length ≤ 192 := by have := varsL_len (n := body.length) (l := body) (Nat.le_refl _); rw [List.take_length] at this; omega
      have hw : ∀ w, w ∈ varsL body ↔ ∃ j, j < (varsL body).length ∧ (varsL body).getD j [] = w := fun w => mem_getD
      have okv : (∀ j, j < (varsL body).length → (varsL body).getD j [] ∈ L) → ∀ w, w ∈ varsL body → w ∈ varsL (holds body) := fun q w hw2 => by
        obtain ⟨j, h1, rfl⟩ := (hw w).1 hw2
        exact (hL _).1 (q j h1)
      have nokv : ∀ j, j < (varsL body).length → (varsL body).getD j [] ∉ L → ¬ OkQ ask dist vars body := fun j h1 h2 o => h2 ((hL _).2 (o.2.2.2.2.2.2.1 _ ((hw _).2 ⟨j, h1, rfl⟩)))
      generalize hWb : varsL body = W at *
      have lenU : ∀ {hh : T O} {e : Nat} {k : V → Out}, lenIn hh (.slice e) u k = k (.int .i64 (W.length : Int)) := B.sl.lenA
      simp (maxSteps := 2000000) (disch := first | omega | assumption) only [↓mCode, ↓mOps, mAll, seval, vPtr, ite_ne, wrap_i64, boundN_int, fn18, Tryz.f18, mLit, mLay, ↓lay_0, eqB_tt, eqB_tf, eqB_ft, eqB_ff, eq_self, Bool.false_eq_true, decide_true, decide_false, lenB, lenV, r1, lenU]
      refine W_loopE (fun q regs h4 n4 => ∃ (j : Nat), q = W.length - j ∧ j ≤ W.length ∧ regs.get 1 = some (.ptr n 0) ∧ regs.get 7 = some (.map n1) ∧ regs.get 8 = some (.map n2) ∧ regs.get 72 = some u ∧ regs.get 73 = some (.int .i64 (W.length : Int)) ∧ regs.get 74 = some (.int .i64 (j : Int)) ∧
          (∀ a, a < j → W.getD a [] ∈ L) ∧ h4 = h3 ∧ n4 = n3)
        (fun regs h4 n4 => regs.get 1 = some (.ptr n 0) ∧ regs.get 7 = some (.map n1) ∧ regs.get 8 = some (.map n2) ∧ (∀ a, a < W.length → W.getD a [] ∈ L) ∧ h4 = h3 ∧ n4 = n3)
        _ ⟨0, rfl, by omega, ?_, ?_, ?_, ?_, ?_, ?_, fun j hj => absurd hj (by omega), rfl, rfl⟩ ?_ ?_
      iterate 6
        · simp only [mBase, Nat.reduceEqDiff, Nat.reduceSub, reduceIte, r1] <;> rfl
      · rintro t2 hexit2 q rg h4 n4 ⟨j, rfl, hj, s1, s7, s8, s72, s73, s74, hin, rfl, rfl⟩ IH2
        by_cases d1 : j < W.length
        · have d1' : ((j : Int) < (W.length : Int)) = True := eq_true (by omega)
          obtain ⟨id2, off2, ex2, k2, lo2, rfl, hlo2, hc2⟩ := B.sl.get1 d1
          by_cases z : W.getD j [] ∈ L
          · have lk : ∀ {k : V → Out}, lookupK tys h4 89 (.map n1) (.str (W.getD j [])) false k = k (.int .i64 1) := fun {k} => by rw [Mp3.look, if_pos z]
            simp (maxSteps := 2000000) (disch := first | omega | assumption) only [↓mCode, ↓mOps, mAll, seval, vPtr, ite_ne, wrap_i64, boundN_int, fn18, Tryz.f18, mLit, mLay, ↓lay_0, eqB_tt, eqB_tf, eqB_ft, eqB_ff, eq_self, Bool.false_eq_true, decide_true, decide_false, lenB, lenV, s1, s7, s8, s72, s73, s74, d1', ↓hc2, lk]
            refine IH2 (W.length - (j + 1)) _ _ _ (by omega) ⟨j + 1, rfl, by omega, ?_, ?_, ?_, ?_, ?_, ?_, fun a ha => ?_, rfl, rfl⟩
            iterate 6
              · simp only [mBase, Nat.reduceEqDiff, Nat.reduceSub, reduceIte, s1, s7, s8, s72, s73, s74] <;> rfl
            · by_cases e : a = j
              · subst e; exact z
              · exact hin a (by omega)
          · have lk : ∀ {k : V → Out}, lookupK tys h4 89 (.map n1) (.str (W.getD j [])) false k = k (.int .i64 0) := fun {k} => by rw [Mp3.look, if_neg z]
            simp (maxSteps := 2000000) (disch := first | omega | assumption) only [↓mCode, ↓mOps, mAll, seval, vPtr, ite_ne, wrap_i64, boundN_int, fn18, Tryz.f18, mLit, mLay, ↓lay_0, eqB_tt, eqB_tf, eqB_ft, eqB_ff, eq_self, Bool.false_eq_true, decide_true, decide_false, lenB, lenV, s1, s7, s8, s72, s73, s74, d1', ↓hc2, lk]
            exact K _ _ _ ⟨by rw [mayQ_f (nokv j d1 z)], G03⟩
        · have e : j = W.length := by omega
          have d1' : ((j : Int) < (W.length : Int)) = False := eq_false (by omega)
          simp (maxSteps := 2000000) (disch := first | omega | assumption) only [↓mCode, ↓mOps, mAll, seval, vPtr, ite_ne, wrap_i64, boundN_int, fn18, Tryz.f18, mLit, mLay, ↓lay_0, eqB_tt, eqB_tf, eqB_ft, eqB_ff, eq_self, Bool.false_eq_true, decide_true, decide_false, lenB, lenV, s1, s7, s8, s72, s73, s74, d1']
          exact hexit2 _ _ _ ⟨by simp only [mBase, Nat.reduceEqDiff, Nat.reduceSub, reduceIte, s1], by simp only [mBase, Nat.reduceEqDiff, Nat.reduceSub, reduceIte, s7], by simp only [mBase, Nat.reduceEqDiff, Nat.reduceSub, reduceIte, s8], fun a ha => hin a (by omega), rfl, rfl⟩
      · rintro rg h4 n4 ⟨s1, s7, s8, hin, rfl, rfl⟩
        have b2 : ∀ {kk : V → Out}, cellAt h4 n 2 kk = kk vv := fun {kk} => cell_of gn3 (by omega) rfl
        simp (maxSteps := 2000000) (disch := first | omega | assumption) only [↓mCode, ↓mOps, mAll, seval, vPtr, ite_ne, wrap_i64, boundN_int, fn18, Tryz.f18, mLit, mLay, ↓lay_0, eqB_tt, eqB_tf, eqB_ft, eqB_ff, eq_self, Bool.false_eq_true, decide_true, decide_false, lenB, lenV, s1, s7, s8, b2]
        refine W_loopE (fun q regs h5 n5 => ∃ (j : Nat) (S : List (List Nat)), q = vars.length - j ∧ j ≤ vars.length ∧ regs.get 7 = some (.map n1) ∧ regs.get 8 = some (.map n2) ∧ regs.get 84 = some vv ∧ regs.get 85 = some (.int .i64 (vars.length : Int)) ∧ regs.get 86 = some (.int .i64 (j : Int)) ∧
            (∀ a, a < j → vars.getD a [] ∈ varsL (holds body) ∧ vars.getD a [] ∉ vars.take a) ∧ MapAt h5 n2 S ∧ (∀ w, w ∈ S ↔ w ∈ vars.take j) ∧ (∀ a, a ≠ n2 → h5.get a = h4.get a) ∧ n5 = n4)
          (fun regs h5 n5 => (∀ a, a < vars.length → vars.getD a [] ∈ varsL (holds body) ∧ vars.getD a [] ∉ vars.take a) ∧ (∀ a, a ≠ n2 → h5.get a = h4.get a) ∧ n5 = n4)
          _ ⟨0, [], rfl, by omega, ?_, ?_, ?_, ?_, ?_, fun j hj => absurd hj (by omega), Ms3, fun w => by simp, fun a _ => rfl, rfl⟩ ?_ ?_
        iterate 5
          · simp only [mBase, Nat.reduceEqDiff, Nat.reduceSub, reduceIte, s7, s8] <;> rfl
        · rintro t3 hexit3 q rg h5 n5 ⟨j, S, rfl, hj, s7, s8, s84, s85, s86, hin3, Ms5, hS, hk5, rfl⟩ IH3
          have hG5 : Gro h n h5 n5 := ⟨G03.1, fun a ha => by rw [hk5 a (by have := G02.1; omega), G03.2 a ha]⟩
          by_cases d1 : j < vars.length
          · have d1' : ((j : Int) < (vars.length : Int)) = True := eq_true (by omega)
            have Mp5 : MapAt h5 n1 L := by unfold MapAt; rw [hk5 n1 (by omega)]; exact Mp3
            obtain ⟨id2, off2, ex2, k2, lo2, rfl, hlo2, hc2⟩ := (Rv.ext hG5).1.get1 d1
            have mt := fun w => mem_takeN d1 (w := w)
            by_cases z : vars.getD j [] ∈ L
            · have lk : ∀ {k : V → Out}, lookupK tys h5 89 (.map n1) (.str (vars.getD j [])) false k = k (.int .i64 1) := fun {k} => by rw [Mp5.look, if_pos z]
              by_cases y : vars.getD j [] ∈ S
              · have lk2 : ∀ {k : V → Out}, lookupK tys h5 89 (.map n2) (.str (vars.getD j [])) false k = k (.int .i64 1) := fun {k} => by rw [Ms5.look, if_pos y]
                simp (maxSteps := 2000000) (disch := first | omega | assumption) only [↓mCode, ↓mOps, mAll, seval, vPtr, ite_ne, wrap_i64, boundN_int, fn18, Tryz.f18, mLit, mLay, ↓lay_0, eqB_tt, eqB_tf, eqB_ft, eqB_ff, eq_self, Bool.false_eq_true, decide_true, decide_false, lenB, lenV, s7, s8, s84, s85, s86, d1', ↓hc2, lk, lk2]
                exact K _ _ _ ⟨by rw [mayQ_f fun o => (o.2.2.2.2.2.2.2 j d1).2 ((hS _).1 y)], hG5⟩
              · have lk2 : ∀ {k : V → Out}, lookupK tys h5 89 (.map n2) (.str (vars.getD j [])) false k = k (.int .i64 0) := fun {k} => by rw [Ms5.look, if_neg y]
                have pm : ∀ {k : T O → Out}, mapPut tys h5 89 (.map n2) (.str (vars.getD j [])) (fun _ => .int .i64 1) (.int .i64 1) (fun h _ _ => k h) = k (h5.put n2 (some (.map (entsFrom (addM S (vars.getD j [])) 0) (addM S (vars.getD j [])).length))) := Ms5.put
                simp (maxSteps := 2000000) (disch := first | omega | assumption) only [↓mCode, ↓mOps, mAll, seval, vPtr, ite_ne, wrap_i64, boundN_int, fn18, Tryz.f18, mLit, mLay, ↓lay_0, eqB_tt, eqB_tf, eqB_ft, eqB_ff, eq_self, Bool.false_eq_true, decide_true, decide_false, lenB, lenV, s7, s8, s84, s85, s86, d1', ↓hc2, lk, lk2, pm]
                refine IH3 (vars.length - (j + 1)) _ _ _ (by omega) ⟨j + 1, addM S (vars.getD j []), rfl, by omega, ?_, ?_, ?_, ?_, ?_, fun a ha => ?_, by unfold MapAt; rw [T.get_put, if_pos rfl], fun w => by rw [mem_addM, hS, mt], fun a ha => by rw [T.get_put, if_neg ha, hk5 a ha], rfl⟩
                iterate 5
                  · simp only [mBase, Nat.reduceEqDiff, Nat.reduceSub, reduceIte, s7, s8, s84, s85, s86] <;> rfl
                · by_cases e : a = j
                  · subst e; exact ⟨(hL _).1 z, fun q => y ((hS _).2 q)⟩
                  · exact hin3 a (by omega)
            · have lk : ∀ {k : V → Out}, lookupK tys h5 89 (.map n1) (.str (vars.getD j [])) false k = k (.int .i64 0) := fun {k} => by rw [Mp5.look, if_neg z]
              simp (maxSteps := 2000000) (disch := first | omega | assumption) only [↓mCode, ↓mOps, mAll, seval, vPtr, ite_ne, wrap_i64, boundN_int, fn18, Tryz.f18, mLit, mLay, ↓lay_0, eqB_tt, eqB_tf, eqB_ft, eqB_ff, eq_self, Bool.false_eq_true, decide_true, decide_false, lenB, lenV, s7, s8, s84, s85, s86, d1', ↓hc2, lk]
              exact K _ _ _ ⟨by rw [mayQ_f fun o => z ((hL _).2 (o.2.2.2.2.2.2.2 j d1).1)], hG5⟩
          · have e : j = vars.length := by omega
            have d1' : ((j : Int) < (vars.length : Int)) = False := eq_false (by omega)
            simp (maxSteps := 2000000) (disch := first | omega | assumption) only [↓mCode, ↓mOps, mAll, seval, vPtr, ite_ne, wrap_i64, boundN_int, fn18, Tryz.f18, mLit, mLay, ↓lay_0, eqB_tt, eqB_tf, eqB_ft, eqB_ff, eq_self, Bool.false_eq_true, decide_true, decide_false, lenB, lenV, s7, s8, s84, s85, s86, d1']
            exact hexit3 _ _ _ ⟨fun a ha => hin3 a (by omega), hk5, rfl⟩
        · rintro rg h5 n5 ⟨hin3, hk5, rfl⟩
          simp (maxSteps := 2000000) (disch := first | omega | assumption) only [↓mCode, ↓mOps, mAll, seval, vPtr, ite_ne, wrap_i64, boundN_int, fn18, Tryz.f18, mLit, mLay, ↓lay_0, eqB_tt, eqB_tf, eqB_ft, eqB_ff, eq_self, Bool.false_eq_true, decide_true, decide_false, lenB, lenV]
          exact K _ _ _ ⟨by rw [mayQ_t ⟨a1, a2, a3, HQ1, HQ2, hok, by rw [hWb]; exact okv hin, hin3⟩], ⟨G03.1, fun a ha => by rw [hk5 a (by have := G02.1; omega), G03.2 a ha]⟩⟩
end Go.Mir
