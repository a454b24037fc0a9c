/- Walks: a text as it is written (the reference). -/
import Derived.Test.YthninknobjneeaaGreatDoorTexH
import Derived.Test.YthninknobjneeaaGreatDoorWG
set_option linter.unusedSimpArgs false
set_option linter.unusedVariables false
namespace Go.Mir
open Go Go.Proofs
set_option maxRecDepth 4000
set_option maxHeartbeats 4000000

section
variable {k : V → Out}
theorem quo_u8 {a b : Nat} (ha : a < 256) (hb : 0 < b) : intBin .quo .u8 (a : Int) .u8 (b : Int) k = k (.int .u8 ((a / b : Nat) : Int)) := by
  have hb' : ¬ (b : Int) = 0 := by omega
  have hle : a / b ≤ a := Nat.div_le_self a b
  have e2 : (a : Int).tdiv (b : Int) = ((a / b : Nat) : Int) := rfl
  generalize a / b = q at *
  have e : Go.binOp .quo 0 (.int .u8 (a : Int)) (.int .u8 (b : Int)) = .pure (.int .u8 (q : Int)) := by
    show (if (b : Int) = 0 then _ else (pure (Value.int .u8 (IntKind.wrap .u8 ((a : Int).tdiv (b : Int)))) : Sem Value)) = _
    rw [if_neg hb', e2, wrap_u8 (by omega)]
    rfl
  show gen .quo .u8 (a : Int) .u8 (b : Int) k = _; unfold gen; rw [e, genI_int]
theorem rem_u8 {a b : Nat} (hb : 0 < b) : intBin .rem .u8 (a : Int) .u8 (b : Int) k = k (.int .u8 ((a % b : Nat) : Int)) := by
  have hb' : ¬ (b : Int) = 0 := by omega
  have e : Go.binOp .rem 0 (.int .u8 (a : Int)) (.int .u8 (b : Int)) = .pure (.int .u8 ((a % b : Nat) : Int)) := by
    show (if (b : Int) = 0 then _ else (pure (Value.int .u8 ((a : Int).tmod (b : Int))) : Sem Value)) = _
    rw [if_neg hb', show (a : Int).tmod (b : Int) = ((a % b : Nat) : Int) from rfl]
    rfl
  show gen .rem .u8 (a : Int) .u8 (b : Int) k = _; unfold gen; rw [e, genI_int]
theorem shr_4 {a : Nat} : intBin .shr .u8 (a : Int) .u64 4 k = k (.int .u8 ((a / 16 : Nat) : Int)) := by
  have e : Go.binOp .shr 0 (.int .u8 (a : Int)) (.int .u64 4) = .pure (.int .u8 ((a / 16 : Nat) : Int)) := by
    show (pure (Value.int .u8 ((a : Int).fdiv (2 ^ (min (4 : Int).toNat (IntKind.bits .u8))))) : Sem Value) = _
    have e2 : (2 : Int) ^ (min (4 : Int).toNat (IntKind.bits .u8)) = 16 := by decide
    have e3 : (a : Int).fdiv 16 = ((a / 16 : Nat) : Int) := by rw [Int.fdiv_eq_ediv_of_nonneg _ (by omega)]; omega
    rw [e2, e3]; rfl
  show gen .shr .u8 (a : Int) .u64 4 k = _; unfold gen; rw [e, genI_int]
end

abbrev u8V (b : Nat) : V := .int .u8 (b : Int)
theorem allOne_u8 : ∀ l : List Nat, allOne (l.map u8V) = true
  | [] => rfl
  | _ :: l => by show and true (allOne (l.map u8V)) = true; rw [allOne_u8 l]; rfl
theorem cells_of {h : T O} {id m z : Nat} {l : List V} (hg : h.get id = some (.cells (ofT l) m z)) (hm : l.length = m) {k : List V → Out} : cellsAt h id 0 m k = k l := by
  rw [cellsAt_eq, hg, om_some, rCells_cells, need_ble (by omega), loadN_ofT (by omega), List.drop_zero, List.take_of_length_le (by omega)]

theorem src178 {id off len kk lo : Nat} {ex : Bool} : srcTy tys 165 (.slice id off len ex kk lo) = true := (by kernel_rfl : srcTy tys 165 (.slice 0 0 0 true 0 0) = true)
/-- a row of bytes of the run's own making: its block at n0 or later -/
def Buf (h : T O) (n n0 : Nat) (v : V) (l : List Nat) : Prop :=
  ∃ id ex kk, v = .slice id 0 l.length ex kk l.length ∧ (ex = true → kk ≤ l.length) ∧ (ex = false → kk = 0) ∧ h.get id = some (.cells (ofT (l.map u8V)) l.length 1) ∧ n0 ≤ id ∧ id < n

theorem Buf.of {h : T O} {n n0 m : Nat} {l : List Nat} {ps : List V} (e : ps = l.map u8V) (em : m = l.length) (hn : n0 ≤ n) : Buf (h.put n (some (.cells (ofT ps) m 1))) (n + 1) n0 (.slice n 0 m true m m) l := by
  subst e; subst em
  exact ⟨n, true, l.length, rfl, (fun _ => Nat.le_refl _), (fun x => by cases x), by rw [T.get_put, if_pos rfl], hn, Nat.lt_succ_self n⟩

theorem Buf.bound {h : T O} {n n0 : Nat} {v : V} {l : List Nat} (B : Buf h n n0 v l) : n0 < n := by
  obtain ⟨id, ex, kk, rfl, hk, hk', hg, h1, h2⟩ := B
  omega

/-- bytes behind it -/
theorem Buf.app {h : T O} {n n0 m : Nat} {v : V} {l p : List Nat} {ps : List V} (B : Buf h n n0 v l) (e : ps = p.map u8V) (em : m = p.length) (hp : 0 < p.length) (hl : l.length + p.length ≤ 1000000) :
    ∃ v' h', (∀ {k : Kv}, appendK tys (h.put n (some (.cells (ofT ps) m 1))) (n + 1) 165 v (.slice n 0 m true m m) k = k v' h' (n + 1 + 1)) ∧ Buf h' (n + 1 + 1) n0 v' (l ++ p) ∧ ∀ j, j < n0 → h'.get j = h.get j := by
  subst e; subst em
  obtain ⟨id, ex, kk, rfl, hk, hk', hg, h1, h2⟩ := B
  have c2 : (l.length + p.length ≤ l.length) = False := eq_false (by omega)
  have gid : (h.put n (some (.cells (ofT (p.map u8V)) p.length 1))).get id = some (.cells (ofT (l.map u8V)) l.length 1) := by rw [T.get_put, if_neg (by omega), hg]
  have gn : (h.put n (some (.cells (ofT (p.map u8V)) p.length 1))).get n = some (.cells (ofT (p.map u8V)) p.length 1) := by rw [T.get_put, if_pos rfl]
  have e1 : ∀ {kk : List V → Out}, cellsAt (h.put n (some (.cells (ofT (p.map u8V)) p.length 1))) id 0 (l.length * 1) kk = kk (l.map u8V) := fun {kk} => by rw [Nat.mul_one]; exact cells_of gid (by simp)
  have e2 : ∀ {kk : List V → Out}, cellsAt (h.put n (some (.cells (ofT (p.map u8V)) p.length 1))) n 0 (p.length * 1) kk = kk (p.map u8V) := fun {kk} => by rw [Nat.mul_one]; exact cells_of gn (by simp)
  have eL : (l.map u8V ++ p.map u8V).length = (l ++ p).length := by simp
  have eM : l.map u8V ++ p.map u8V = (l ++ p).map u8V := by simp
  have eN : l.length + p.length = (l ++ p).length := by simp
  have a1 : allOne (l.map u8V ++ p.map u8V) = true := by rw [eM]; exact allOne_u8 _
  cases ex with
  | true =>
    refine ⟨.slice (n + 1) 0 (l.length + p.length) false 0 (l.length + p.length), (h.put n (some (.cells (ofT (p.map u8V)) p.length 1))).put (n + 1) (some (.cells (ofT (l.map u8V ++ p.map u8V)) (l.map u8V ++ p.map u8V).length 1)), ?_, ?_, ?_⟩
    · intro k
      rw [appendK_slice, sliceTy_eq, ty165, om_some, slTy_slice, ty5, om_some, srcK_slice, e2, app1_eq]
      simp only [c2, if_false]
      rw [e1]
      show need (Nat.ble kk l.length) _ = _
      rw [need_ble (hk rfl), growK_eq, need_ble (by omega)]
    · rw [eM, List.length_map, eN]
      exact ⟨n + 1, false, 0, rfl, (fun x => by cases x), (fun _ => rfl), by rw [T.get_put, if_pos rfl], by omega, by omega⟩
    · intro j hj
      rw [T.get_put, if_neg (by omega), T.get_put, if_neg (by omega)]
  | false =>
    refine ⟨.slice (n + 1) 0 (l.length + p.length) false 0 (l.length + p.length), ((h.put n (some (.cells (ofT (p.map u8V)) p.length 1))).put id none).put (n + 1) (some (.cells (ofT (l.map u8V ++ p.map u8V)) (l.map u8V ++ p.map u8V).length 1)), ?_, ?_, ?_⟩
    · intro k
      rw [appendK_slice, sliceTy_eq, ty165, om_some, slTy_slice, ty5, om_some, srcK_slice, e2, app1_eq]
      simp only [c2, if_false]
      rw [e1]
      show app2 _ _ _ _ _ _ _ _ _ = _
      rw [app2_eq, gid, om_some, oCells_cells, need_and, need_and, need_beq rfl, need_beq (by rw [hk' rfl]), a1]
      show growK _ _ _ _ _ _ = _
      rw [growK_eq, need_ble (by omega)]
    · rw [eM, List.length_map, eN]
      exact ⟨n + 1, false, 0, rfl, (fun x => by cases x), (fun _ => rfl), by rw [T.get_put, if_pos rfl], by omega, by omega⟩
    · intro j hj
      rw [T.get_put, if_neg (by omega), T.get_put, if_neg (by omega), T.get_put, if_neg (by omega)]

theorem Buf.str {h : T O} {n n0 : Nat} {v : V} {l : List Nat} (B : Buf h n n0 v l) (hb : ∀ b ∈ l, b < 256) {k : V → Out} : convK tys h 165 9 v k = k (.str l) := by
  obtain ⟨id, ex, kk, rfl, hk, hk', hg, h1, h2⟩ := B
  exact bytesStr hg hb

/- a text as it is written -/
def hexD (d : Nat) : Nat := if d < 10 then 48 + d else 55 + d
def digs : List Nat := [48, 49, 50, 51, 52, 53, 54, 55, 56, 57, 65, 66, 67, 68, 69, 70]
theorem digs_at : ∀ d, d < 16 → digs[d]? = some (hexD d) := by decide
def escB (c : Nat) : List Nat := if c = 34 ∨ c = 92 then [92, c] else if c = 8 then [92, 98] else if c = 9 then [92, 116] else if c = 10 then [92, 110] else if c = 12 then [92, 102] else if c = 13 then [92, 114] else
  if c < 32 ∨ c = 127 then [92, 117, 48, 48, hexD (c / 16), hexD (c % 16)] else [c]
def wrB (s : List Nat) : List Nat := 34 :: s.flatMap escB ++ [34]
theorem escB_len (c : Nat) : (escB c).length ≤ 6 := by
  unfold escB
  repeat' split
  all_goals simp
theorem esc_len : ∀ s : List Nat, (s.flatMap escB).length ≤ 6 * s.length
  | [] => by simp
  | c :: s => by
    rw [List.flatMap_cons, List.length_append, List.length_cons]
    have := esc_len s; have := escB_len c; omega
theorem hexD_lt {d : Nat} (h : d < 16) : hexD d < 256 := by unfold hexD; split <;> omega
theorem escB_lt {c : Nat} (h : c < 256) : ∀ b ∈ escB c, b < 256 := by
  have e1 := hexD_lt (d := c / 16) (by omega)
  have e2 := hexD_lt (d := c % 16) (by omega)
  intro b hb
  unfold escB at hb
  repeat' split at hb
  all_goals
    simp only [List.mem_cons, List.not_mem_nil, or_false] at hb
    omega
theorem wr_lt {s : List Nat} (h : ∀ c ∈ s, c < 256) : ∀ b ∈ wrB s, b < 256 := by
  intro b hb
  unfold wrB at hb
  simp only [List.cons_append, List.mem_cons, List.mem_append, List.mem_flatMap, List.not_mem_nil, or_false] at hb
  rcases hb with rfl | ⟨c, hc, hb⟩ | rfl
  · omega
  · exact escB_lt (h c hc) b hb
  · omega
theorem take_esc {s : List Nat} {i : Nat} (hi : i < s.length) : (s.take (i + 1)).flatMap escB = (s.take i).flatMap escB ++ escB (s.getD i 0) := by
  rw [List.take_succ_eq_append_getElem hi, List.flatMap_append, List.getD_eq_getElem?_getD, List.getElem?_eq_getElem hi]
  simp
end Go.Mir
namespace Go.Mir
open Go Go.Proofs
set_option maxRecDepth 4000
set_option maxHeartbeats 16000000

theorem written02_ok {s : List Nat} {h : T O} {n : Nat} (hb : ∀ c ∈ s, c < 256) (hl : s.length ≤ 160000) : Fn env0 47 [.str s] h n (fun v h' n' => v = .str (wrB s) ∧ Gro h n h' n') := by
  refine Fn.mk fn47 rfl fz47 (by simp) fun Q cs K => ?_
  simp (maxSteps := 2000000) (disch := first | omega | assumption) only [↓mCode, ↓mOps, mAll, seval, vPtr, ite_ne, wrap_i64, boundN_int, fn47, Tryz.f47, reduceCtorEq, decide_true, decide_false, List.map_nil, List.map_cons, Nat.sub_zero]
  refine W_loopE (fun q regs h1 n1 => ∃ (i : Nat) (v : V), q = s.length - i ∧ i ≤ s.length ∧ regs.get 0 = some (.str s) ∧ regs.get 3 = some (.str digs) ∧ regs.get 4 = some v ∧ regs.get 5 = some (.int .i64 (i : Int)) ∧ Buf h1 n1 n v (34 :: (s.take i).flatMap escB) ∧ (∀ j, j < n → h1.get j = h.get j))
    (fun regs h1 n1 => ∃ (v : V), regs.get 4 = some v ∧ Buf h1 n1 n v (34 :: s.flatMap escB) ∧ (∀ j, j < n → h1.get j = h.get j))
    _ ⟨0, .slice n 0 1 true 1 1, rfl, by omega, ?_, ?_, ?_, ?_, Buf.of rfl rfl (by omega), fun j hj => by rw [T.get_put, if_neg (by omega)]⟩ ?_ ?_
  iterate 4
    · simp only [mBase, Nat.reduceEqDiff, Nat.reduceSub, reduceIte] <;> rfl
  · rintro tt hexit q regs h1 n1 ⟨i, v, rfl, hi, r0, r3, r4, r5, B, hk⟩ IH
    by_cases c1 : i < s.length
    · have c1' : ((i : Int) < (s.length : Int)) = True := eq_true (by omega)
      have si : s[i]? = some (s.getD i 0) := by rw [List.getD_eq_getElem?_getD, List.getElem?_eq_getElem c1]; rfl
      have hcb : s.getD i 0 < 256 := by rw [List.getD_eq_getElem?_getD, List.getElem?_eq_getElem c1]; exact hb _ (List.getElem_mem c1)
      have ht := take_esc c1
      have hel := esc_len (s.take i)
      have htl : (s.take i).length ≤ s.length := by rw [List.length_take]; omega
      have i1 : (i : Int) + 1 = ((i + 1 : Nat) : Int) := by omega
      generalize s.getD i 0 = c at *
      have ecl := escB_len c
      have go : ∀ (v' : V) (h' : T O) (n' : Nat) (rg : T V), rg.get 0 = some (.str s) → rg.get 3 = some (.str digs) → rg.get 4 = some v' → rg.get 5 = some (.int .i64 ((i + 1 : Nat) : Int)) → Buf h' n' n v' (34 :: (s.take i).flatMap escB ++ escB c) → (∀ j, j < n → h'.get j = h1.get j) →
          ∃ (i' : Nat) (v : V), s.length - (i + 1) = s.length - i' ∧ i' ≤ s.length ∧ rg.get 0 = some (.str s) ∧ rg.get 3 = some (.str digs) ∧ rg.get 4 = some v ∧ rg.get 5 = some (.int .i64 (i' : Int)) ∧ Buf h' n' n v (34 :: (s.take i').flatMap escB) ∧ (∀ j, j < n → h'.get j = h.get j) :=
        fun v' h' n' rg a0 a3 a4 a5 B' k' => ⟨i + 1, v', rfl, by omega, a0, a3, a4, a5, by rw [ht]; exact B', fun j hj => by rw [k' j hj, hk j hj]⟩
      by_cases z34 : c = 34
      · have p34 : ((c : Int) = 34) = True := eq_true (by omega)
        have eb : escB c = [92, c] := by unfold escB; rw [if_pos (by omega)]
        obtain ⟨v2, h2, ap, B2, k2⟩ := B.app (p := [92, c]) (ps := [.int .u8 92, .int .u8 (c : Int)]) (m := 2) rfl rfl (by simp) (by simp only [List.length_cons, List.length_nil]; omega)
        simp (maxSteps := 2000000) (disch := first | omega | assumption) only [↓mCode, ↓mOps, mAll, seval, vPtr, ite_ne, wrap_i64, boundN_int, fn47, Tryz.f47, reduceCtorEq, decide_true, decide_false, List.map_nil, List.map_cons, Nat.sub_zero, r0, r3, r4, r5, c1', si, p34, src178, ap, i1]
        refine IH (s.length - (i + 1)) _ _ _ (by omega) (go _ _ _ _ ?_ ?_ ?_ ?_ (by rw [eb]; exact B2) k2)
        iterate 4
          · simp only [mBase, Nat.reduceEqDiff, Nat.reduceSub, reduceIte, r0, r3, r4, r5] <;> rfl
      have q34 : ((c : Int) = 34) = False := eq_false (by omega)
      by_cases z92 : c = 92
      · have p92 : ((c : Int) = 92) = True := eq_true (by omega)
        have eb : escB c = [92, c] := by unfold escB; rw [if_pos (by omega)]
        obtain ⟨v2, h2, ap, B2, k2⟩ := B.app (p := [92, c]) (ps := [.int .u8 92, .int .u8 (c : Int)]) (m := 2) rfl rfl (by simp) (by simp only [List.length_cons, List.length_nil]; omega)
        simp (maxSteps := 2000000) (disch := first | omega | assumption) only [↓mCode, ↓mOps, mAll, seval, vPtr, ite_ne, wrap_i64, boundN_int, fn47, Tryz.f47, reduceCtorEq, decide_true, decide_false, List.map_nil, List.map_cons, Nat.sub_zero, r0, r3, r4, r5, c1', si, q34, p92, src178, ap, i1]
        refine IH (s.length - (i + 1)) _ _ _ (by omega) (go _ _ _ _ ?_ ?_ ?_ ?_ (by rw [eb]; exact B2) k2)
        iterate 4
          · simp only [mBase, Nat.reduceEqDiff, Nat.reduceSub, reduceIte, r0, r3, r4, r5] <;> rfl
      have q92 : ((c : Int) = 92) = False := eq_false (by omega)
      by_cases z8 : c = 8
      · have p8 : ((c : Int) = 8) = True := eq_true (by omega)
        have eb : escB c = [92, 98] := by unfold escB; rw [if_neg (by omega), if_pos (by omega)]
        obtain ⟨v2, h2, ap, B2, k2⟩ := B.app (p := [92, 98]) (ps := [.int .u8 92, .int .u8 98]) (m := 2) rfl rfl (by simp) (by simp only [List.length_cons, List.length_nil]; omega)
        simp (maxSteps := 2000000) (disch := first | omega | assumption) only [↓mCode, ↓mOps, mAll, seval, vPtr, ite_ne, wrap_i64, boundN_int, fn47, Tryz.f47, reduceCtorEq, decide_true, decide_false, List.map_nil, List.map_cons, Nat.sub_zero, r0, r3, r4, r5, c1', si, q34, q92, p8, src178, ap, i1]
        refine IH (s.length - (i + 1)) _ _ _ (by omega) (go _ _ _ _ ?_ ?_ ?_ ?_ (by rw [eb]; exact B2) k2)
        iterate 4
          · simp only [mBase, Nat.reduceEqDiff, Nat.reduceSub, reduceIte, r0, r3, r4, r5] <;> rfl
      have q8 : ((c : Int) = 8) = False := eq_false (by omega)
      by_cases z9 : c = 9
      · have p9 : ((c : Int) = 9) = True := eq_true (by omega)
        have eb : escB c = [92, 116] := by unfold escB; rw [if_neg (by omega), if_neg (by omega), if_pos (by omega)]
        obtain ⟨v2, h2, ap, B2, k2⟩ := B.app (p := [92, 116]) (ps := [.int .u8 92, .int .u8 116]) (m := 2) rfl rfl (by simp) (by simp only [List.length_cons, List.length_nil]; omega)
        simp (maxSteps := 2000000) (disch := first | omega | assumption) only [↓mCode, ↓mOps, mAll, seval, vPtr, ite_ne, wrap_i64, boundN_int, fn47, Tryz.f47, reduceCtorEq, decide_true, decide_false, List.map_nil, List.map_cons, Nat.sub_zero, r0, r3, r4, r5, c1', si, q34, q92, q8, p9, src178, ap, i1]
        refine IH (s.length - (i + 1)) _ _ _ (by omega) (go _ _ _ _ ?_ ?_ ?_ ?_ (by rw [eb]; exact B2) k2)
        iterate 4
          · simp only [mBase, Nat.reduceEqDiff, Nat.reduceSub, reduceIte, r0, r3, r4, r5] <;> rfl
      have q9 : ((c : Int) = 9) = False := eq_false (by omega)
      by_cases z10 : c = 10
      · have p10 : ((c : Int) = 10) = True := eq_true (by omega)
        have eb : escB c = [92, 110] := by unfold escB; rw [if_neg (by omega), if_neg (by omega), if_neg (by omega), if_pos (by omega)]
        obtain ⟨v2, h2, ap, B2, k2⟩ := B.app (p := [92, 110]) (ps := [.int .u8 92, .int .u8 110]) (m := 2) rfl rfl (by simp) (by simp only [List.length_cons, List.length_nil]; omega)
        simp (maxSteps := 2000000) (disch := first | omega | assumption) only [↓mCode, ↓mOps, mAll, seval, vPtr, ite_ne, wrap_i64, boundN_int, fn47, Tryz.f47, reduceCtorEq, decide_true, decide_false, List.map_nil, List.map_cons, Nat.sub_zero, r0, r3, r4, r5, c1', si, q34, q92, q8, q9, p10, src178, ap, i1]
        refine IH (s.length - (i + 1)) _ _ _ (by omega) (go _ _ _ _ ?_ ?_ ?_ ?_ (by rw [eb]; exact B2) k2)
        iterate 4
          · simp only [mBase, Nat.reduceEqDiff, Nat.reduceSub, reduceIte, r0, r3, r4, r5] <;> rfl
      have q10 : ((c : Int) = 10) = False := eq_false (by omega)
      by_cases z12 : c = 12
      · have p12 : ((c : Int) = 12) = True := eq_true (by omega)
        have eb : escB c = [92, 102] := by unfold escB; rw [if_neg (by omega), if_neg (by omega), if_neg (by omega), if_neg (by omega), if_pos (by omega)]
        obtain ⟨v2, h2, ap, B2, k2⟩ := B.app (p := [92, 102]) (ps := [.int .u8 92, .int .u8 102]) (m := 2) rfl rfl (by simp) (by simp only [List.length_cons, List.length_nil]; omega)
        simp (maxSteps := 2000000) (disch := first | omega | assumption) only [↓mCode, ↓mOps, mAll, seval, vPtr, ite_ne, wrap_i64, boundN_int, fn47, Tryz.f47, reduceCtorEq, decide_true, decide_false, List.map_nil, List.map_cons, Nat.sub_zero, r0, r3, r4, r5, c1', si, q34, q92, q8, q9, q10, p12, src178, ap, i1]
        refine IH (s.length - (i + 1)) _ _ _ (by omega) (go _ _ _ _ ?_ ?_ ?_ ?_ (by rw [eb]; exact B2) k2)
        iterate 4
          · simp only [mBase, Nat.reduceEqDiff, Nat.reduceSub, reduceIte, r0, r3, r4, r5] <;> rfl
      have q12 : ((c : Int) = 12) = False := eq_false (by omega)
      by_cases z13 : c = 13
      · have p13 : ((c : Int) = 13) = True := eq_true (by omega)
        have eb : escB c = [92, 114] := by unfold escB; rw [if_neg (by omega), if_neg (by omega), if_neg (by omega), if_neg (by omega), if_neg (by omega), if_pos (by omega)]
        obtain ⟨v2, h2, ap, B2, k2⟩ := B.app (p := [92, 114]) (ps := [.int .u8 92, .int .u8 114]) (m := 2) rfl rfl (by simp) (by simp only [List.length_cons, List.length_nil]; omega)
        simp (maxSteps := 2000000) (disch := first | omega | assumption) only [↓mCode, ↓mOps, mAll, seval, vPtr, ite_ne, wrap_i64, boundN_int, fn47, Tryz.f47, reduceCtorEq, decide_true, decide_false, List.map_nil, List.map_cons, Nat.sub_zero, r0, r3, r4, r5, c1', si, q34, q92, q8, q9, q10, q12, p13, src178, ap, i1]
        refine IH (s.length - (i + 1)) _ _ _ (by omega) (go _ _ _ _ ?_ ?_ ?_ ?_ (by rw [eb]; exact B2) k2)
        iterate 4
          · simp only [mBase, Nat.reduceEqDiff, Nat.reduceSub, reduceIte, r0, r3, r4, r5] <;> rfl
      have q13 : ((c : Int) = 13) = False := eq_false (by omega)
      have d1 : digs[c / 16]? = some (hexD (c / 16)) := digs_at _ (by omega)
      have d2 : digs[c % 16]? = some (hexD (c % 16)) := digs_at _ (by omega)
      have g1 : ∀ {k : V → Out}, intBin .quo .u8 (c : Int) .u8 16 k = k (.int .u8 ((c / 16 : Nat) : Int)) := quo_u8 (b := 16) hcb (by omega)
      have g2 : ∀ {k : V → Out}, intBin .rem .u8 (c : Int) .u8 16 k = k (.int .u8 ((c % 16 : Nat) : Int)) := rem_u8 (b := 16) (by omega)
      by_cases z32 : c < 32
      · have p32 : ((c : Int) < 32) = True := eq_true (by omega)
        have eb : escB c = [92, 117, 48, 48, hexD (c / 16), hexD (c % 16)] := by unfold escB; rw [if_neg (by omega), if_neg (by omega), if_neg (by omega), if_neg (by omega), if_neg (by omega), if_neg (by omega), if_pos (by omega)]
        obtain ⟨v2, h2, ap, B2, k2⟩ := B.app (p := [92, 117, 48, 48, hexD (c / 16), hexD (c % 16)]) (ps := [.int .u8 92, .int .u8 117, .int .u8 48, .int .u8 48, .int .u8 (hexD (c / 16) : Int), .int .u8 (hexD (c % 16) : Int)]) (m := 6) rfl rfl (by simp) (by simp only [List.length_cons, List.length_nil]; omega)
        simp (maxSteps := 2000000) (disch := first | omega | assumption) only [↓mCode, ↓mOps, mAll, seval, vPtr, ite_ne, wrap_i64, boundN_int, fn47, Tryz.f47, reduceCtorEq, decide_true, decide_false, List.map_nil, List.map_cons, Nat.sub_zero, r0, r3, r4, r5, c1', si, q34, q92, q8, q9, q10, q12, q13, p32]
        refine W_draw sr47_21 ss47_21 ?_ ?_
        · exact sk47_21
        simp (maxSteps := 2000000) (disch := first | omega | assumption) only [↓mCode, ↓mOps, mAll, seval, vPtr, ite_ne, wrap_i64, boundN_int, fn47, Tryz.f47, reduceCtorEq, decide_true, decide_false, List.map_nil, List.map_cons, Nat.sub_zero, r0, r3, r4, r5, c1', si, q34, q92, q8, q9, q10, q12, q13, p32, d1, d2, g1, g2, src178, ap, i1]
        refine IH (s.length - (i + 1)) _ _ _ (by omega) (go _ _ _ _ ?_ ?_ ?_ ?_ (by rw [eb]; exact B2) k2)
        iterate 4
          · simp only [mBase, Nat.reduceEqDiff, Nat.reduceSub, reduceIte, r0, r3, r4, r5] <;> rfl
      have q32 : ((c : Int) < 32) = False := eq_false (by omega)
      by_cases z127 : c = 127
      · have p127 : ((c : Int) = 127) = True := eq_true (by omega)
        have eb : escB c = [92, 117, 48, 48, hexD (c / 16), hexD (c % 16)] := by unfold escB; rw [if_neg (by omega), if_neg (by omega), if_neg (by omega), if_neg (by omega), if_neg (by omega), if_neg (by omega), if_pos (by omega)]
        obtain ⟨v2, h2, ap, B2, k2⟩ := B.app (p := [92, 117, 48, 48, hexD (c / 16), hexD (c % 16)]) (ps := [.int .u8 92, .int .u8 117, .int .u8 48, .int .u8 48, .int .u8 (hexD (c / 16) : Int), .int .u8 (hexD (c % 16) : Int)]) (m := 6) rfl rfl (by simp) (by simp only [List.length_cons, List.length_nil]; omega)
        simp (maxSteps := 2000000) (disch := first | omega | assumption) only [↓mCode, ↓mOps, mAll, seval, vPtr, ite_ne, wrap_i64, boundN_int, fn47, Tryz.f47, reduceCtorEq, decide_true, decide_false, List.map_nil, List.map_cons, Nat.sub_zero, r0, r3, r4, r5, c1', si, q34, q92, q8, q9, q10, q12, q13, q32, p127]
        refine W_draw sr47_21 ss47_21 ?_ ?_
        · exact sk47_21
        simp (maxSteps := 2000000) (disch := first | omega | assumption) only [↓mCode, ↓mOps, mAll, seval, vPtr, ite_ne, wrap_i64, boundN_int, fn47, Tryz.f47, reduceCtorEq, decide_true, decide_false, List.map_nil, List.map_cons, Nat.sub_zero, r0, r3, r4, r5, c1', si, q34, q92, q8, q9, q10, q12, q13, q32, p127, d1, d2, g1, g2, src178, ap, i1]
        refine IH (s.length - (i + 1)) _ _ _ (by omega) (go _ _ _ _ ?_ ?_ ?_ ?_ (by rw [eb]; exact B2) k2)
        iterate 4
          · simp only [mBase, Nat.reduceEqDiff, Nat.reduceSub, reduceIte, r0, r3, r4, r5] <;> rfl
      have q127 : ((c : Int) = 127) = False := eq_false (by omega)
      have eb : escB c = [c] := by unfold escB; rw [if_neg (by omega), if_neg (by omega), if_neg (by omega), if_neg (by omega), if_neg (by omega), if_neg (by omega), if_neg (by omega)]
      obtain ⟨v2, h2, ap, B2, k2⟩ := B.app (p := [c]) (ps := [.int .u8 (c : Int)]) (m := 1) rfl rfl (by simp) (by simp only [List.length_cons, List.length_nil]; omega)
      simp (maxSteps := 2000000) (disch := first | omega | assumption) only [↓mCode, ↓mOps, mAll, seval, vPtr, ite_ne, wrap_i64, boundN_int, fn47, Tryz.f47, reduceCtorEq, decide_true, decide_false, List.map_nil, List.map_cons, Nat.sub_zero, r0, r3, r4, r5, c1', si, q34, q92, q8, q9, q10, q12, q13, q32, q127, src178, ap, i1]
      refine IH (s.length - (i + 1)) _ _ _ (by omega) (go _ _ _ _ ?_ ?_ ?_ ?_ (by rw [eb]; exact B2) k2)
      iterate 4
        · simp only [mBase, Nat.reduceEqDiff, Nat.reduceSub, reduceIte, r0, r3, r4, r5] <;> rfl
    · have e : i = s.length := by omega
      have c1' : ((i : Int) < (s.length : Int)) = False := eq_false (by omega)
      subst e
      simp (maxSteps := 2000000) (disch := first | omega | assumption) only [↓mCode, ↓mOps, mAll, seval, vPtr, ite_ne, wrap_i64, boundN_int, fn47, Tryz.f47, reduceCtorEq, decide_true, decide_false, List.map_nil, List.map_cons, Nat.sub_zero, r0, r3, r4, r5, c1']
      refine hexit _ _ _ ⟨v, ?_, by rwa [List.take_length] at B, hk⟩
      simp (maxSteps := 2000000) (disch := first | omega | assumption) only [↓mCode, ↓mOps, mAll, seval, vPtr, ite_ne, wrap_i64, boundN_int, r4]
  · rintro regs h1 n1 ⟨v, r4, B, hk⟩
    have hel := esc_len s
    obtain ⟨v2, h2, ap, B2, k2⟩ := B.app (p := [34]) (ps := [.int .u8 34]) (m := 1) rfl rfl (by simp) (by simp only [List.length_cons, List.length_nil]; omega)
    have cv : ∀ {k : V → Out}, convK tys h2 165 9 v2 k = k (.str (wrB s)) := fun {k} => B2.str (wr_lt hb)
    have b1 := B2.bound
    simp (maxSteps := 2000000) (disch := first | omega | assumption) only [↓mCode, ↓mOps, mAll, seval, vPtr, ite_ne, wrap_i64, boundN_int, fn47, Tryz.f47, reduceCtorEq, decide_true, decide_false, List.map_nil, List.map_cons, Nat.sub_zero, tb9', r4, src178, ap, cv]
    exact K _ _ _ ⟨rfl, by omega, fun j hj => by rw [k2 j hj, hk j hj]⟩
end Go.Mir
