/- Walks: a text as it is written (the program). -/
import Derived.Test.YthninknobjneeaaGreatDoorTexX
set_option linter.unusedSimpArgs false
set_option linter.unusedVariables false
namespace Go.Mir
open Go Go.Proofs
set_option maxRecDepth 4000
set_option maxHeartbeats 16000000

theorem lookup2_eq {tys : T TI} {h : T O} {t id : Nat} {x : V} {k : V → Out} : lookupK tys h t (.map id) x true k = mapTy tys t fun tk te => need (keyOk x) (om (h.get id) fun o => oMap o fun es _ => keyEq tys tk x x fun b => need b (find tys tk x es (zeroV te fun v => k (.tuple [v, .bool false])) fun _ e => k (.tuple [e.2.1, .bool true]))) := rfl

/-- the table of what is written with a sign ahead -/
def ESC : List (V × V × Nat) := [(.int .u8 34, .int .u8 34, 0), (.int .u8 92, .int .u8 92, 1), (.int .u8 8, .int .u8 98, 2), (.int .u8 9, .int .u8 116, 3), (.int .u8 10, .int .u8 110, 4), (.int .u8 12, .int .u8 102, 5), (.int .u8 13, .int .u8 114, 6)]
def escM (c : Nat) : Bool := decide (c = 34 ∨ c = 92 ∨ c = 8 ∨ c = 9 ∨ c = 10 ∨ c = 12 ∨ c = 13)
def escV (c : Nat) : Nat := if c = 34 then 34 else if c = 92 then 92 else if c = 8 then 98 else if c = 9 then 116 else if c = 10 then 110 else if c = 12 then 102 else if c = 13 then 114 else 0

theorem lookESC {h : T O} {id c : Nat} (hg : h.get id = some (.map ESC 7)) {k : V → Out} : lookupK tys h 341 (.map id) (.int .u8 (c : Int)) true k = k (.tuple [.int .u8 (escV c : Int), .bool (escM c)]) := by
  have e0 : ∀ {kb : Bool → Out}, keyEq tys { kind := .int .u8, size := 1, bytes := 1, zero := [.int .u8 0] } (.int .u8 (c : Int)) (.int .u8 (c : Int)) kb = kb true := fun {kb} => by
    rw [keyEq_int, eqT_int, eqInt_eq, decide_eq_true rfl]
  rw [lookup2_eq, mapTy_eq, ty341, om_some, mapIn_map, ty5, om_some, om_some, keyOk_int, need_true, hg, om_some, oMap_map, e0, need_true, find_eq]
  unfold ESC
  simp only [findI_cons, findI_nil, keyEq_int, eqT_int, eqInt_eq, zeroV_eq, one_eq, isAggK_int]
  rcases (by omega : c = 34 ∨ c = 92 ∨ c = 8 ∨ c = 9 ∨ c = 10 ∨ c = 12 ∨ c = 13 ∨ (c ≠ 34 ∧ c ≠ 92 ∧ c ≠ 8 ∧ c ≠ 9 ∧ c ≠ 10 ∧ c ≠ 12 ∧ c ≠ 13)) with z | z | z | z | z | z | z | z
  · subst z; rfl
  · subst z; rfl
  · subst z; rfl
  · subst z; rfl
  · subst z; rfl
  · subst z; rfl
  · subst z; rfl
  · have q1 : ((c : Int) = 34) = False := eq_false (by omega)
    have q2 : ((c : Int) = 92) = False := eq_false (by omega)
    have q3 : ((c : Int) = 8) = False := eq_false (by omega)
    have q4 : ((c : Int) = 9) = False := eq_false (by omega)
    have q5 : ((c : Int) = 10) = False := eq_false (by omega)
    have q6 : ((c : Int) = 12) = False := eq_false (by omega)
    have q7 : ((c : Int) = 13) = False := eq_false (by omega)
    have m0 : escM c = false := decide_eq_false (by omega)
    have v0 : escV c = 0 := by
      unfold escV
      rw [if_neg z.1, if_neg z.2.1, if_neg z.2.2.1, if_neg z.2.2.2.1, if_neg z.2.2.2.2.1, if_neg z.2.2.2.2.2.1, if_neg z.2.2.2.2.2.2]
    rw [m0, v0]
    simp only [q1, q2, q3, q4, q5, q6, q7, decide_false]
    rfl
theorem escB_M {c : Nat} (h : escM c = true) : escB c = [92, escV c] := by
  have h' := of_decide_eq_true h
  rcases h' with z | z | z | z | z | z | z <;> subst z <;> rfl
theorem escB_U {c : Nat} (h : escM c = false) (hu : c < 32 ∨ c = 127) : escB c = [92, 117, 48, 48, hexD (c / 16), hexD (c % 16)] := by
  have h' := of_decide_eq_false h
  unfold escB; rw [if_neg (by omega), if_neg (by omega), if_neg (by omega), if_neg (by omega), if_neg (by omega), if_neg (by omega), if_pos hu]
theorem escB_N {c : Nat} (h : escM c = false) (hu : ¬ (c < 32 ∨ c = 127)) : escB c = [c] := by
  have h' := of_decide_eq_false h
  unfold escB; rw [if_neg (by omega), if_neg (by omega), if_neg (by omega), if_neg (by omega), if_neg (by omega), if_neg (by omega), if_neg hu]

theorem written_ok {s : List Nat} {h : T O} {n : Nat} (hb : ∀ c ∈ s, c < 256) (hl : s.length ≤ 160000) : Fn env0 158 [.str s] h n (fun v h' n' => v = .str (wrB s) ∧ Gro h n h' n') := by
  refine Fn.mk fn158 rfl fz158 (by simp) fun Q cs K => ?_
  simp (maxSteps := 2000000) (disch := first | omega | assumption) only [↓mCode, ↓mOps, mAll, seval, vPtr, ite_ne, wrap_i64, boundN_int, fn158, Tryz.f158, mMap, List.nil_append, List.cons_append, reduceCtorEq, decide_true, decide_false, List.map_nil, List.map_cons, Nat.sub_zero]
  refine W_loopE (fun q regs h1 n1 => ∃ (i : Nat) (v : V), q = s.length - i ∧ i ≤ s.length ∧ regs.get 0 = some (.str s) ∧ regs.get 3 = some (.map n) ∧ regs.get 4 = some v ∧ regs.get 13 = some (.int .i64 (s.length : Int)) ∧ regs.get 14 = some (.int .i64 (i : Int)) ∧
      Buf h1 n1 (n + 1) v (34 :: (s.take i).flatMap escB) ∧ h1.get n = some (.map ESC 7) ∧ (∀ j, j < n → h1.get j = h.get j))
    (fun regs h1 n1 => ∃ (v : V), regs.get 4 = some v ∧ Buf h1 n1 (n + 1) v (34 :: s.flatMap escB) ∧ (∀ j, j < n → h1.get j = h.get j))
    _ ⟨0, .slice (n + 1) 0 1 true 1 1, rfl, by omega, ?_, ?_, ?_, ?_, ?_, Buf.of rfl rfl (by omega), ?_, fun j hj => ?_⟩ ?_ ?_
  iterate 5
    · simp only [mBase, Nat.reduceEqDiff, Nat.reduceSub, reduceIte] <;> rfl
  · rw [T.get_put, if_neg (by omega)]; simp only [T.get_put, if_pos]; rfl
  · simp only [T.get_put]
    repeat rw [if_neg (by omega)]
  · rintro tt hexit q regs h1 n1 ⟨i, v, rfl, hi, r0, r3, r4, r13, r14, B, gm, hk⟩ IH
    by_cases c1 : i < s.length
    · have c1' : ((i : Int) < (s.length : Int)) = True := eq_true (by omega)
      have si : s[i]? = some (s.getD i 0) := by rw [List.getD_eq_getElem?_getD, List.getElem?_eq_getElem c1]; rfl
      have hcb : s.getD i 0 < 256 := by rw [List.getD_eq_getElem?_getD, List.getElem?_eq_getElem c1]; exact hb _ (List.getElem_mem c1)
      have ht := take_esc c1
      have hel := esc_len (s.take i)
      have htl : (s.take i).length ≤ s.length := by rw [List.length_take]; omega
      have i1 : (i : Int) + 1 = ((i + 1 : Nat) : Int) := by omega
      generalize s.getD i 0 = c at *
      have ecl := escB_len c
      have lk : ∀ {k : V → Out}, lookupK tys h1 341 (.map n) (.int .u8 (c : Int)) true k = k (.tuple [.int .u8 (escV c : Int), .bool (escM c)]) := fun {k} => lookESC gm
      have go : ∀ (v' : V) (h' : T O) (n' : Nat) (rg : T V), rg.get 0 = some (.str s) → rg.get 3 = some (.map n) → rg.get 4 = some v' → rg.get 13 = some (.int .i64 (s.length : Int)) → rg.get 14 = some (.int .i64 ((i + 1 : Nat) : Int)) → Buf h' n' (n + 1) v' (34 :: (s.take i).flatMap escB ++ escB c) → (∀ j, j < n + 1 → h'.get j = h1.get j) →
          ∃ (i' : Nat) (v : V), s.length - (i + 1) = s.length - i' ∧ i' ≤ s.length ∧ rg.get 0 = some (.str s) ∧ rg.get 3 = some (.map n) ∧ rg.get 4 = some v ∧ rg.get 13 = some (.int .i64 (s.length : Int)) ∧ rg.get 14 = some (.int .i64 (i' : Int)) ∧ Buf h' n' (n + 1) v (34 :: (s.take i').flatMap escB) ∧ h'.get n = some (.map ESC 7) ∧ (∀ j, j < n → h'.get j = h.get j) :=
        fun v' h' n' rg a0 a3 a4 a13 a14 B' k' => ⟨i + 1, v', rfl, by omega, a0, a3, a4, a13, a14, by rw [ht]; exact B', by rw [k' n (by omega), gm], fun j hj => by rw [k' j (by omega), hk j hj]⟩
      cases em : escM c with
      | true =>
        have eb := escB_M em
        obtain ⟨v2, h2, ap, B2, k2⟩ := B.app (p := [92, escV c]) (ps := [.int .u8 92, .int .u8 (escV c : Int)]) (m := 2) rfl rfl (by simp) (by simp only [List.length_cons, List.length_nil]; omega)
        rw [em] at lk
        simp (maxSteps := 2000000) (disch := first | omega | assumption) only [↓mCode, ↓mOps, mAll, seval, vPtr, ite_ne, wrap_i64, boundN_int, fn158, Tryz.f158, ↓lk, r0, r3, r4, r13, r14, c1', si, src178, ap, i1]
        refine IH (s.length - (i + 1)) _ _ _ (by omega) (go _ _ _ _ ?_ ?_ ?_ ?_ ?_ (by rw [eb]; exact B2) k2)
        iterate 5
          · simp only [mBase, Nat.reduceEqDiff, Nat.reduceSub, reduceIte, r0, r3, r4, r13, r14] <;> rfl
      | false =>
        rw [em] at lk
        have d1 : digs[c / 16]? = some (hexD (c / 16)) := digs_at _ (by omega)
        have d2 : digs[c % 16]? = some (hexD (c % 16)) := digs_at _ (by omega)
        have g1 : ∀ {k : V → Out}, intBin .shr .u8 (c : Int) .u64 4 k = k (.int .u8 ((c / 16 : Nat) : Int)) := shr_4
        have g2 : ∀ {k : V → Out}, intBin .and .u8 (c : Int) .u8 15 k = k (.int .u8 ((c % 16 : Nat) : Int)) := fun {k} => by have := and_u8 (a := c) (b := 15) (k := k) hcb (by omega); rwa [and15] at this
        unfold digs at d1 d2
        by_cases z32 : c < 32
        · have p32 : ((c : Int) < 32) = True := eq_true (by omega)
          have eb := escB_U em (.inl z32)
          obtain ⟨v2, h2, ap, B2, k2⟩ := B.app (p := [92, 117, 48, 48, hexD (c / 16), hexD (c % 16)]) (ps := [.int .u8 92, .int .u8 117, .int .u8 48, .int .u8 48, .int .u8 (hexD (c / 16) : Int), .int .u8 (hexD (c % 16) : Int)]) (m := 6) rfl rfl (by simp) (by simp only [List.length_cons, List.length_nil]; omega)
          simp (maxSteps := 2000000) (disch := first | omega | assumption) only [↓mCode, ↓mOps, mAll, seval, vPtr, ite_ne, wrap_i64, boundN_int, fn158, Tryz.f158, ↓lk, r0, r3, r4, r13, r14, c1', si, p32]
          refine W_draw sr158_12 ss158_12 ?_ ?_
          · exact sk158_12
          simp (maxSteps := 2000000) (disch := first | omega | assumption) only [↓mCode, ↓mOps, mAll, seval, vPtr, ite_ne, wrap_i64, boundN_int, fn158, Tryz.f158, List.map_nil, List.map_cons, r0, r3, r4, r13, r14, ↓d1, ↓d2, g1, g2, src178, ap, i1]
          refine IH (s.length - (i + 1)) _ _ _ (by omega) (go _ _ _ _ ?_ ?_ ?_ ?_ ?_ (by rw [eb]; exact B2) k2)
          iterate 5
            · simp only [mBase, Nat.reduceEqDiff, Nat.reduceSub, reduceIte, r0, r3, r4, r13, r14] <;> rfl
        have q32 : ((c : Int) < 32) = False := eq_false (by omega)
        by_cases z127 : c = 127
        · have p127 : ((c : Int) = 127) = True := eq_true (by omega)
          have eb := escB_U em (.inr z127)
          obtain ⟨v2, h2, ap, B2, k2⟩ := B.app (p := [92, 117, 48, 48, hexD (c / 16), hexD (c % 16)]) (ps := [.int .u8 92, .int .u8 117, .int .u8 48, .int .u8 48, .int .u8 (hexD (c / 16) : Int), .int .u8 (hexD (c % 16) : Int)]) (m := 6) rfl rfl (by simp) (by simp only [List.length_cons, List.length_nil]; omega)
          simp (maxSteps := 2000000) (disch := first | omega | assumption) only [↓mCode, ↓mOps, mAll, seval, vPtr, ite_ne, wrap_i64, boundN_int, fn158, Tryz.f158, ↓lk, r0, r3, r4, r13, r14, c1', si, q32, p127]
          refine W_draw sr158_12 ss158_12 ?_ ?_
          · exact sk158_12
          simp (maxSteps := 2000000) (disch := first | omega | assumption) only [↓mCode, ↓mOps, mAll, seval, vPtr, ite_ne, wrap_i64, boundN_int, fn158, Tryz.f158, List.map_nil, List.map_cons, r0, r3, r4, r13, r14, ↓d1, ↓d2, g1, g2, src178, ap, i1]
          refine IH (s.length - (i + 1)) _ _ _ (by omega) (go _ _ _ _ ?_ ?_ ?_ ?_ ?_ (by rw [eb]; exact B2) k2)
          iterate 5
            · simp only [mBase, Nat.reduceEqDiff, Nat.reduceSub, reduceIte, r0, r3, r4, r13, r14] <;> rfl
        have q127 : ((c : Int) = 127) = False := eq_false (by omega)
        have eb := escB_N em (by omega)
        obtain ⟨v2, h2, ap, B2, k2⟩ := B.app (p := [c]) (ps := [.int .u8 (c : Int)]) (m := 1) rfl rfl (by simp) (by simp only [List.length_cons, List.length_nil]; omega)
        simp (maxSteps := 2000000) (disch := first | omega | assumption) only [↓mCode, ↓mOps, mAll, seval, vPtr, ite_ne, wrap_i64, boundN_int, fn158, Tryz.f158, ↓lk, r0, r3, r4, r13, r14, c1', si, q32, q127, src178, ap, i1]
        refine IH (s.length - (i + 1)) _ _ _ (by omega) (go _ _ _ _ ?_ ?_ ?_ ?_ ?_ (by rw [eb]; exact B2) k2)
        iterate 5
          · simp only [mBase, Nat.reduceEqDiff, Nat.reduceSub, reduceIte, r0, r3, r4, r13, r14] <;> rfl
    · have e : i = s.length := by omega
      have c1' : ((i : Int) < (s.length : Int)) = False := eq_false (by omega)
      subst e
      simp (maxSteps := 2000000) (disch := first | omega | assumption) only [↓mCode, ↓mOps, mAll, seval, vPtr, ite_ne, wrap_i64, boundN_int, fn158, Tryz.f158, r0, r3, r4, r13, r14, c1']
      refine hexit _ _ _ ⟨v, ?_, by rwa [List.take_length] at B, hk⟩
      simp (maxSteps := 2000000) (disch := first | omega | assumption) only [↓mCode, ↓mOps, mAll, seval, vPtr, ite_ne, wrap_i64, boundN_int, r4]
  · rintro regs h1 n1 ⟨v, r4, B, hk⟩
    have hel := esc_len s
    obtain ⟨v2, h2, ap, B2, k2⟩ := B.app (p := [34]) (ps := [.int .u8 34]) (m := 1) rfl rfl (by simp) (by simp only [List.length_cons, List.length_nil]; omega)
    have cv : ∀ {k : V → Out}, convK tys h2 165 9 v2 k = k (.str (wrB s)) := fun {k} => B2.str (wr_lt hb)
    have b1 := B2.bound
    simp (maxSteps := 2000000) (disch := first | omega | assumption) only [↓mCode, ↓mOps, mAll, seval, vPtr, ite_ne, wrap_i64, boundN_int, fn158, Tryz.f158, tb9', r4, src178, ap, cv]
    exact K _ _ _ ⟨rfl, by omega, fun j hj => by rw [k2 j (by omega), hk j hj]⟩
end Go.Mir
