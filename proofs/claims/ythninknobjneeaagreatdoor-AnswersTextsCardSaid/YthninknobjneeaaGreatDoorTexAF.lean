/- Walks: the variables of parts (the program). -/
import Derived.Test.YthninknobjneeaaGreatDoorTexAC
set_option linter.unusedSimpArgs false
set_option linter.unusedVariables false
set_option linter.defProp false
namespace Go.Mir
open Go Go.Proofs
set_option maxRecDepth 4000
set_option maxHeartbeats 16000000

/- parts in the memory -/
def zLit : LitT := (0, zP, zS, zS)
def LitAt (h : T O) (id a : Nat) (x : LitT) : Prop := ∃ o t M e, h.get id = some o ∧ (o = .cells t M e ∨ o = .ro t M e) ∧ a + 21 ≤ M ∧ ∀ j, j < 21 → t.get (a + j) = (litC x)[j]?
theorem LitAt.keep {h h' : T O} {id a : Nat} {x : LitT} (L : LitAt h id a x) (e : h'.get id = h.get id) : LitAt h' id a x := by
  obtain ⟨o, t, M, e', h1, h2⟩ := L
  exact ⟨o, t, M, e', e.trans h1, h2⟩
theorem LitAt.cells {h : T O} {id a : Nat} {x : LitT} (L : LitAt h id a x) {p m b : Nat} (hp : p + m ≤ 21) (hb : b = a + p) {kk : List V → Out} : cellsAt h id b m kk = kk (((litC x).drop p).take m) := by
  obtain ⟨o, t, M, e, h1, h2, h3, h4⟩ := L
  subst hb
  have hl : (((litC x).drop p).take m).length = m := by rw [List.length_take, List.length_drop, litC_len]; omega
  have go : loadN t (a + p) m kk = kk (((litC x).drop p).take m) := by
    have := loadN_of (t := t) (off := a + p) (((litC x).drop p).take m) (fun j hj => by
      rw [hl] at hj
      rw [Nat.add_assoc, h4 (p + j) (by omega), List.getElem?_take, if_pos hj, List.getElem?_drop]) (k := kk)
    rw [hl] at this; exact this
  rw [cellsAt_eq, h1, om_some]
  rcases h2 with rfl | rfl
  · rw [rCells_cells, need_ble (by omega), go]
  · rw [rCells_ro, need_ble (by omega), go]
theorem LitAt.cell {h : T O} {id a : Nat} {x : LitT} (L : LitAt h id a x) {p b : Nat} {y : V} (hp : p < 21) (hy : (litC x)[p]? = some y) (hb : b = a + p) {kk : V → Out} : cellAt h id b kk = kk y := by
  obtain ⟨o, t, M, e, h1, h2, h3, h4⟩ := L
  subst hb
  rw [cellAt_eq, h1, om_some]
  rcases h2 with rfl | rfl
  · rw [rCells_cells, need_ble (by omega), h4 p hp, hy, om_some]
  · rw [rCells_ro, need_ble (by omega), h4 p hp, hy, om_some]
theorem LitAt.of {h : T O} {id : Nat} {x : LitT} (hg : h.get id = some (.cells (ofT (litC x)) 21 21)) : LitAt h id 0 x := ⟨_, _, _, _, hg, .inl rfl, by omega, fun j hj => by rw [Nat.zero_add, ofT_get]⟩
theorem LitAt.lay {h : T O} {id m e : Nat} {t : T V} {x : LitT} (hg : h.get id = some (.cells (layT t 0 (litC x)) m e)) (hm : 21 ≤ m) : LitAt h id 0 x :=
  ⟨_, _, _, _, hg, .inl rfl, by omega, fun j hj => by rw [layT_get, if_pos (by rw [litC_len]; omega)]; simp only [Nat.zero_add, Nat.sub_zero]⟩

def litG (l : List LitT) (j : Nat) : V := (litC (l.getD (j / 21) zLit)).getD (j % 21) (.bool false)
def LitIn (h : T O) (n : Nat) (v : V) (l : List LitT) : Prop := Sl h 21 (litG l) v l.length ∧ ∀ id, vid v = some id → id < n
theorem LitIn.ext {h h' : T O} {n n' : Nat} {v : V} {l : List LitT} (R : LitIn h n v l) (E : Gro h n h' n') : LitIn h' n' v l :=
  ⟨R.1.keep fun id hv => E.2 id (R.2 id hv), fun id hv => Nat.lt_of_lt_of_le (R.2 id hv) E.1⟩
theorem LitIn.get {h : T O} {n : Nat} {v : V} {l : List LitT} (R : LitIn h n v l) {i : Nat} (hi : i < l.length) : ∃ id off ex k lo, v = .slice id off l.length ex k lo ∧ l.length ≤ lo ∧ id < n ∧ LitAt h id (off + i * 21) (l.getD i zLit) := by
  obtain ⟨S, hv⟩ := R
  generalize hL : l.length = L at S
  cases S with
  | nil => omega
  | tail => omega
  | slice id off len ex k lo hlo C =>
    obtain ⟨o, t, m, z, h1, h2, h3, h4⟩ := C
    refine ⟨id, off, ex, k, lo, rfl, by omega, hv id rfl, ⟨o, t, m, z, h1, h2, by omega, fun j hj => ?_⟩⟩
    rw [Nat.add_assoc, h4 (i * 21 + j) (by omega)]
    unfold litG
    rw [show (i * 21 + j) / 21 = i by omega, show (i * 21 + j) % 21 = j by omega, List.getD_eq_getElem?_getD, List.getElem?_eq_getElem (by rw [litC_len]; exact hj)]; rfl

/- texts in the memory -/
theorem Sl.get1 {h : T O} {g : Nat → V} {v : V} {len : Nat} (S : Sl h 1 g v len) {i : Nat} (hi : i < len) : ∃ id off ex k lo, v = .slice id off len ex k lo ∧ len ≤ lo ∧ ∀ {kk : V → Out}, cellAt h id (off + i * 1) kk = kk (g i) := by
  cases S with
  | nil => omega
  | tail => omega
  | slice id off len ex k lo hlo C => exact ⟨id, off, ex, k, lo, rfl, hlo, fun {kk} => C.at (j := i) (by omega) (by omega)⟩
abbrev strG (l : List (List Nat)) (j : Nat) : V := .str (l.getD j [])
theorem mem_getD {s : List Nat} {l : List (List Nat)} : s ∈ l ↔ ∃ i, i < l.length ∧ l.getD i [] = s := by
  constructor
  · intro h
    obtain ⟨i, hi, e⟩ := List.getElem_of_mem h
    exact ⟨i, hi, by rw [List.getD_eq_getElem?_getD, List.getElem?_eq_getElem hi]; exact e⟩
  · rintro ⟨i, hi, e⟩
    rw [List.getD_eq_getElem?_getD, List.getElem?_eq_getElem hi] at e
    rw [← e]; exact List.getElem_mem hi

theorem in58_ok {h : T O} {n : Nat} {v : V} {l : List (List Nat)} {s : List Nat} (S : Sl h 1 (strG l) v l.length) (hl : l.length ≤ 1000000) :
    Fn env0 38 [v, .str s] h n (fun u h' n' => u = .bool (decide (s ∈ l)) ∧ h' = h ∧ n' = n) := by
  refine Fn.mk fn38 rfl fz38 (by simp) fun Q cs K => ?_
  have len : ∀ {e : Nat} {k : V → Out}, lenIn h (.slice e) v k = k (.int .i64 (l.length : Int)) := Sl.len S
  simp (maxSteps := 2000000) (disch := first | omega | assumption) only [↓mCode, ↓mOps, mAll, seval, vPtr, ite_ne, wrap_i64, boundN_int, fn38, Tryz.f38, decide_true, decide_false]
  refine W_loopE (fun q regs h1 n1 => ∃ i : Nat, q = l.length - i ∧ i ≤ l.length ∧ regs.get 0 = some v ∧ regs.get 1 = some (.str s) ∧ regs.get 5 = some (.int .i64 (i : Int)) ∧ (∀ j, j < i → l.getD j [] ≠ s) ∧ h1 = h ∧ n1 = n)
    (fun regs h1 n1 => (∀ j, j < l.length → l.getD j [] ≠ s) ∧ h1 = h ∧ n1 = n)
    _ ⟨0, rfl, by omega, ?_, ?_, ?_, fun j hj => absurd hj (by omega), rfl, rfl⟩ ?_ ?_
  iterate 3
    · simp only [mBase, Nat.reduceEqDiff, Nat.reduceSub, reduceIte] <;> rfl
  · rintro tt hexit q regs h1 n1 ⟨i, rfl, hi, r0, r1, r5, hm, rfl, rfl⟩ IH
    by_cases c1 : i < l.length
    · have c1' : ((i : Int) < (l.length : Int)) = True := eq_true (by omega)
      obtain ⟨id, off, ex, k, lo, rfl, hlo, hc⟩ := S.get1 c1
      by_cases z : l.getD i [] = s
      · have z' : (l.getD i [] = s) = True := eq_true z
        simp (maxSteps := 2000000) (disch := first | omega | assumption) only [↓mCode, ↓mOps, mAll, seval, vPtr, ite_ne, wrap_i64, boundN_int, fn38, Tryz.f38, decide_true, decide_false, r0, r1, r5, c1', len, ↓hc, z']
        exact K _ _ _ ⟨by rw [decide_eq_true (mem_getD.2 ⟨i, c1, z⟩)], rfl, rfl⟩
      · have z' : (l.getD i [] = s) = False := eq_false z
        simp (maxSteps := 2000000) (disch := first | omega | assumption) only [↓mCode, ↓mOps, mAll, seval, vPtr, ite_ne, wrap_i64, boundN_int, fn38, Tryz.f38, decide_true, decide_false, r0, r1, r5, c1', len, ↓hc, z']
        refine IH (l.length - (i + 1)) _ _ _ (by omega) ⟨i + 1, rfl, by omega, ?_, ?_, ?_, fun j hj => ?_, rfl, rfl⟩
        iterate 3
          · simp only [mBase, Nat.reduceEqDiff, Nat.reduceSub, reduceIte, r0, r1, r5] <;> rfl
        · by_cases e : j = i
          · subst e; exact z
          · exact hm j (by omega)
    · have e : i = l.length := by omega
      have c1' : ((i : Int) < (l.length : Int)) = False := eq_false (by omega)
      simp (maxSteps := 2000000) (disch := first | omega | assumption) only [↓mCode, ↓mOps, mAll, seval, vPtr, ite_ne, wrap_i64, boundN_int, fn38, Tryz.f38, decide_true, decide_false, r0, r1, r5, c1', len]
      exact hexit _ _ _ ⟨fun j hj => hm j (by omega), rfl, rfl⟩
  · rintro regs h1 n1 ⟨hm, rfl, rfl⟩
    simp (maxSteps := 2000000) (disch := first | omega | assumption) only [↓mCode, ↓mOps, mAll, seval, vPtr, ite_ne, wrap_i64, boundN_int, fn38, Tryz.f38, decide_true, decide_false]
    refine K _ _ _ ⟨?_, rfl, rfl⟩
    rw [decide_eq_false]
    intro q
    obtain ⟨i, h1, h2⟩ := mem_getD.1 q
    exact hm i h1 h2

theorem in101_ok {h : T O} {n : Nat} {v : V} {l : List (List Nat)} {s : List Nat} (S : Sl h 1 (strG l) v l.length) (hl : l.length ≤ 1000000) :
    Fn env0 80 [v, .str s] h n (fun u h' n' => u = .bool (decide (s ∈ l)) ∧ h' = h ∧ n' = n) := by
  refine Fn.mk fn80 rfl fz80 (by simp) fun Q cs K => ?_
  have len : ∀ {e : Nat} {k : V → Out}, lenIn h (.slice e) v k = k (.int .i64 (l.length : Int)) := Sl.len S
  simp (maxSteps := 2000000) (disch := first | omega | assumption) only [↓mCode, ↓mOps, mAll, seval, vPtr, ite_ne, wrap_i64, boundN_int, fn80, Tryz.f80, decide_true, decide_false]
  refine W_loopE (fun q regs h1 n1 => ∃ i : Nat, q = l.length - i ∧ i ≤ l.length ∧ regs.get 0 = some v ∧ regs.get 1 = some (.str s) ∧ regs.get 5 = some (.int .i64 (i : Int)) ∧ (∀ j, j < i → l.getD j [] ≠ s) ∧ h1 = h ∧ n1 = n)
    (fun regs h1 n1 => (∀ j, j < l.length → l.getD j [] ≠ s) ∧ h1 = h ∧ n1 = n)
    _ ⟨0, rfl, by omega, ?_, ?_, ?_, fun j hj => absurd hj (by omega), rfl, rfl⟩ ?_ ?_
  iterate 3
    · simp only [mBase, Nat.reduceEqDiff, Nat.reduceSub, reduceIte] <;> rfl
  · rintro tt hexit q regs h1 n1 ⟨i, rfl, hi, r0, r1, r5, hm, rfl, rfl⟩ IH
    by_cases c1 : i < l.length
    · have c1' : ((i : Int) < (l.length : Int)) = True := eq_true (by omega)
      obtain ⟨id, off, ex, k, lo, rfl, hlo, hc⟩ := S.get1 c1
      by_cases z : l.getD i [] = s
      · have z' : (l.getD i [] = s) = True := eq_true z
        simp (maxSteps := 2000000) (disch := first | omega | assumption) only [↓mCode, ↓mOps, mAll, seval, vPtr, ite_ne, wrap_i64, boundN_int, fn80, Tryz.f80, decide_true, decide_false, r0, r1, r5, c1', len, ↓hc, z']
        exact K _ _ _ ⟨by rw [decide_eq_true (mem_getD.2 ⟨i, c1, z⟩)], rfl, rfl⟩
      · have z' : (l.getD i [] = s) = False := eq_false z
        simp (maxSteps := 2000000) (disch := first | omega | assumption) only [↓mCode, ↓mOps, mAll, seval, vPtr, ite_ne, wrap_i64, boundN_int, fn80, Tryz.f80, decide_true, decide_false, r0, r1, r5, c1', len, ↓hc, z']
        refine IH (l.length - (i + 1)) _ _ _ (by omega) ⟨i + 1, rfl, by omega, ?_, ?_, ?_, fun j hj => ?_, rfl, rfl⟩
        iterate 3
          · simp only [mBase, Nat.reduceEqDiff, Nat.reduceSub, reduceIte, r0, r1, r5] <;> rfl
        · by_cases e : j = i
          · subst e; exact z
          · exact hm j (by omega)
    · have e : i = l.length := by omega
      have c1' : ((i : Int) < (l.length : Int)) = False := eq_false (by omega)
      simp (maxSteps := 2000000) (disch := first | omega | assumption) only [↓mCode, ↓mOps, mAll, seval, vPtr, ite_ne, wrap_i64, boundN_int, fn80, Tryz.f80, decide_true, decide_false, r0, r1, r5, c1', len]
      exact hexit _ _ _ ⟨fun j hj => hm j (by omega), rfl, rfl⟩
  · rintro regs h1 n1 ⟨hm, rfl, rfl⟩
    simp (maxSteps := 2000000) (disch := first | omega | assumption) only [↓mCode, ↓mOps, mAll, seval, vPtr, ite_ne, wrap_i64, boundN_int, fn80, Tryz.f80, decide_true, decide_false]
    refine K _ _ _ ⟨?_, rfl, rfl⟩
    rw [decide_eq_false]
    intro q
    obtain ⟨i, h1, h2⟩ := mem_getD.1 q
    exact hm i h1 h2

theorem index133_ok {h : T O} {n : Nat} {v : V} {l : List (List Nat)} {s : List Nat} (S : Sl h 1 (strG l) v l.length) (hl : l.length ≤ 1000000) :
    Fn env0 112 [v, .str s] h n (fun u h' n' => (∃ z : Int, u = .int .i64 z ∧ (0 ≤ z ↔ s ∈ l)) ∧ h' = h ∧ n' = n) := by
  refine Fn.mk fn112 rfl fz112 (by simp) fun Q cs K => ?_
  have len : ∀ {e : Nat} {k : V → Out}, lenIn h (.slice e) v k = k (.int .i64 (l.length : Int)) := Sl.len S
  simp (maxSteps := 2000000) (disch := first | omega | assumption) only [↓mCode, ↓mOps, mAll, seval, vPtr, ite_ne, wrap_i64, boundN_int, fn112, Tryz.f112, decide_true, decide_false, len]
  refine W_loopE (fun q regs h1 n1 => ∃ i : Nat, q = l.length - i ∧ i ≤ l.length ∧ regs.get 0 = some v ∧ regs.get 1 = some (.str s) ∧ regs.get 7 = some (.int .i64 (l.length : Int)) ∧ regs.get 8 = some (.int .i64 (i : Int)) ∧ (∀ j, j < i → l.getD j [] ≠ s) ∧ h1 = h ∧ n1 = n)
    (fun regs h1 n1 => (∀ j, j < l.length → l.getD j [] ≠ s) ∧ h1 = h ∧ n1 = n)
    _ ⟨0, rfl, by omega, ?_, ?_, ?_, ?_, fun j hj => absurd hj (by omega), rfl, rfl⟩ ?_ ?_
  iterate 4
    · simp only [mBase, Nat.reduceEqDiff, Nat.reduceSub, reduceIte] <;> rfl
  · rintro tt hexit q regs h1 n1 ⟨i, rfl, hi, r0, r1, r7, r8, hm, rfl, rfl⟩ IH
    by_cases c1 : i < l.length
    · have c1' : ((i : Int) < (l.length : Int)) = True := eq_true (by omega)
      obtain ⟨id, off, ex, k, lo, rfl, hlo, hc⟩ := S.get1 c1
      by_cases z : s = l.getD i []
      · have z' : (s = l.getD i []) = True := eq_true z
        simp (maxSteps := 2000000) (disch := first | omega | assumption) only [↓mCode, ↓mOps, mAll, seval, vPtr, ite_ne, wrap_i64, boundN_int, fn112, Tryz.f112, decide_true, decide_false, r0, r1, r7, r8, c1', ↓hc, z']
        exact K _ _ _ ⟨⟨_, rfl, ⟨fun _ => mem_getD.2 ⟨i, c1, z.symm⟩, fun _ => by omega⟩⟩, rfl, rfl⟩
      · have z' : (s = l.getD i []) = False := eq_false z
        simp (maxSteps := 2000000) (disch := first | omega | assumption) only [↓mCode, ↓mOps, mAll, seval, vPtr, ite_ne, wrap_i64, boundN_int, fn112, Tryz.f112, decide_true, decide_false, r0, r1, r7, r8, c1', ↓hc, z']
        refine IH (l.length - (i + 1)) _ _ _ (by omega) ⟨i + 1, rfl, by omega, ?_, ?_, ?_, ?_, fun j hj => ?_, rfl, rfl⟩
        iterate 4
          · simp only [mBase, Nat.reduceEqDiff, Nat.reduceSub, reduceIte, r0, r1, r7, r8] <;> rfl
        · by_cases e : j = i
          · subst e; exact fun q => z q.symm
          · exact hm j (by omega)
    · have e : i = l.length := by omega
      have c1' : ((i : Int) < (l.length : Int)) = False := eq_false (by omega)
      simp (maxSteps := 2000000) (disch := first | omega | assumption) only [↓mCode, ↓mOps, mAll, seval, vPtr, ite_ne, wrap_i64, boundN_int, fn112, Tryz.f112, decide_true, decide_false, r0, r1, r7, r8, c1']
      exact hexit _ _ _ ⟨fun j hj => hm j (by omega), rfl, rfl⟩
  · rintro regs h1 n1 ⟨hm, rfl, rfl⟩
    simp (maxSteps := 2000000) (disch := first | omega | assumption) only [↓mCode, ↓mOps, mAll, seval, vPtr, ite_ne, wrap_i64, boundN_int, fn112, Tryz.f112, decide_true, decide_false]
    refine K _ _ _ ⟨⟨_, rfl, ⟨fun q => absurd q (by omega), fun q => ?_⟩⟩, rfl, rfl⟩
    obtain ⟨i, h1, h2⟩ := mem_getD.1 q
    exact absurd h2 (hm i h1)

theorem contains98_ok {h : T O} {n : Nat} {v : V} {l : List (List Nat)} {s : List Nat} (S : Sl h 1 (strG l) v l.length) (hl : l.length ≤ 1000000) :
    Fn env0 77 [v, .str s] h n (fun u h' n' => u = .bool (decide (s ∈ l)) ∧ h' = h ∧ n' = n) := by
  refine Fn.mk fn77 rfl fz77 (by simp) fun Q cs K => ?_
  simp (maxSteps := 2000000) (disch := first | omega | assumption) only [↓mCode, ↓mOps, mAll, seval, vPtr, ite_ne, wrap_i64, boundN_int, fn77, Tryz.f77]
  refine (index133_ok S hl).call e0_hook e0_subs ?_
  rintro _ h1 n1 ⟨⟨z, rfl, hz⟩, rfl, rfl⟩
  simp (maxSteps := 2000000) (disch := first | omega | assumption) only [↓mCode, ↓mOps, mAll, seval, vPtr, ite_ne, wrap_i64, boundN_int, fn77, Tryz.f77]
  refine K _ _ _ ⟨?_, rfl, rfl⟩
  have : decide (0 ≤ z) = decide (s ∈ l) := by rw [Bool.eq_iff_iff]; simp [hz]
  rw [this]

theorem SBuf.one {h : T O} {n n0 : Nat} {v : V} {l : List (List Nat)} (B : SBuf h n n0 v l) : oneV v = true := by
  obtain ⟨h0, B⟩ := B
  rcases B with ⟨rfl, rfl⟩ | ⟨id, rfl, hg, h1, h2⟩ <;> rfl
theorem SBuf.vid0 {h : T O} {n n0 : Nat} {v : V} {l : List (List Nat)} (B : SBuf h n n0 v l) {j : Nat} (hj : Mir.vid v = some j) : n0 ≤ j ∧ j < n := by
  obtain ⟨h0, B⟩ := B
  rcases B with ⟨rfl, rfl⟩ | ⟨id, rfl, hg, h1, h2⟩
  · cases hj
  · cases hj; exact ⟨h1, h2⟩
theorem SBuf.hi {h h' : T O} {n n0 : Nat} {v : V} {l : List (List Nat)} (B : SBuf h n n0 v l) (e : ∀ j, n0 ≤ j → h'.get j = h.get j) : SBuf h' n n0 v l := by
  obtain ⟨h0, B⟩ := B
  refine ⟨h0, ?_⟩
  rcases B with ⟨rfl, rfl⟩ | ⟨id, rfl, hg, h1, h2⟩
  · exact .inl ⟨rfl, rfl⟩
  · exact .inr ⟨id, rfl, by rw [e id h1, hg], h1, h2⟩
theorem SBuf.weak {h : T O} {n n0 m : Nat} {v : V} {l : List (List Nat)} (B : SBuf h n n0 v l) (hm : m ≤ n0) : SBuf h n m v l := by
  obtain ⟨h0, B⟩ := B
  refine ⟨by omega, ?_⟩
  rcases B with ⟨rfl, rfl⟩ | ⟨id, rfl, hg, h1, h2⟩
  · exact .inl ⟨rfl, rfl⟩
  · exact .inr ⟨id, rfl, hg, by omega, h2⟩

/-- a variable that is seen -/
def addS (l : List (List Nat)) (w : List Nat) : List (List Nat) := if w ≠ [] ∧ w ∉ l then l ++ [w] else l

theorem see_ok {s : SlotT} {h : T O} {n n0 c : Nat} {u : V} {t : T V} {l : List (List Nat)} (hc : h.get c = some (.cells t 1 1)) (ht : t.get 0 = some u) (B : SBuf h n n0 u l) (hcn : c < n0) (hl : l.length + 1 ≤ 1000000) :
    Fn env0 76 [.agg (slotC s), .ptr c 0] h n (fun v h' n' => v = .tuple [] ∧ ∃ u' t', h'.get c = some (.cells t' 1 1) ∧ t'.get 0 = some u' ∧ SBuf h' n' n0 u' (addS l s.1) ∧ (∀ j, j < n → j ≠ c → vid u ≠ some j → h'.get j = h.get j) ∧
      (∀ j, vid u' = some j → vid u = some j ∨ n ≤ j) ∧ n ≤ n') := by
  obtain ⟨w, k, s, e⟩ := s
  refine Fn.mk fn76 rfl fz76 (by simp) fun Q cs K => ?_
  have hn0 : n0 ≤ n := B.1
  have ne : (c = n) = False := eq_false (by omega)
  have c0 : ∀ {kk : V → Out}, cellAt h c 0 kk = kk u := fun {kk} => by rw [cellAt_eq, hc, om_some, rCells_cells, need_ble (by omega), ht, om_some]
  have B1 := B.ext ((Gro.refl h n).put (.cells (ofT [V.str w, V.int .i64 k, V.str s, V.str e]) 4 4))
  have keep : ∀ j, j < n → j ≠ c → vid u ≠ some j → (h.put n (some (.cells (ofT [V.str w, V.int .i64 k, V.str s, V.str e]) 4 4))).get j = h.get j := fun j hj _ _ => by rw [T.get_put, if_neg (by omega)]
  by_cases z : w = []
  · have z' : (w ≠ []) = False := eq_false fun q => q z
    simp (maxSteps := 2000000) (disch := first | omega | assumption) only [↓mCode, ↓mOps, mAll, seval, vPtr, ite_ne, wrap_i64, boundN_int, fn76, Tryz.f76, List.map_nil, decide_true, decide_false, Bool.not_true, Bool.not_false, slotC, z']
    refine K _ _ _ ⟨rfl, u, t, by rw [T.get_put, if_neg (by omega)]; exact hc, ht, ?_, keep, fun j hj => .inl hj, by omega⟩
    have : addS l w = l := if_neg fun q => q.1 z
    rw [show (w, k, s, e).1 = w from rfl, this]; exact B1
  · have z' : (w ≠ []) = True := eq_true z
    simp (maxSteps := 2000000) (disch := first | omega | assumption) only [↓mCode, ↓mOps, mAll, seval, vPtr, ite_ne, wrap_i64, boundN_int, fn76, Tryz.f76, List.map_nil, decide_true, decide_false, Bool.not_true, Bool.not_false, slotC, z', ne, c0]
    refine (contains98_ok B1.sl (by omega)).call e0_hook e0_subs ?_
    rintro _ h1 n1 ⟨rfl, rfl, rfl⟩
    by_cases y : w ∈ l
    · have y' : (w ∈ l) = True := eq_true y
      simp (maxSteps := 2000000) (disch := first | omega | assumption) only [↓mCode, ↓mOps, mAll, seval, vPtr, ite_ne, wrap_i64, boundN_int, fn76, Tryz.f76, List.map_nil, decide_true, decide_false, Bool.not_true, Bool.not_false, y']
      refine K _ _ _ ⟨rfl, u, t, by rw [T.get_put, if_neg (by omega)]; exact hc, ht, ?_, keep, fun j hj => .inl hj, by omega⟩
      have : addS l w = l := if_neg fun q => q.2 y
      rw [show (w, k, s, e).1 = w from rfl, this]; exact B1
    · have y' : (w ∈ l) = False := eq_false y
      obtain ⟨v2, h2, ap, B2, k2, k3, hv⟩ := B1.app (x := w) hl
      have uc : vid u ≠ some c := fun q => by have := (B.vid0 q).1; omega
      have gc : h2.get c = some (.cells t 1 1) := by rw [k2 c hcn, T.get_put, if_neg (by omega)]; exact hc
      have o1 : cellsOf v2 = [v2] := cellsOf_one B2.one
      have o2 : allOne [v2] = true := by rw [allOne_cons, B2.one]; rfl
      simp (maxSteps := 2000000) (disch := first | omega | assumption) only [↓mCode, ↓mOps, mAll, seval, vPtr, ite_ne, wrap_i64, boundN_int, fn76, Tryz.f76, List.map_nil, decide_true, decide_false, Bool.not_true, Bool.not_false, y', ne, c0, src33, ap, gc, o1, o2]
      refine K _ _ _ ⟨rfl, v2, _, by rw [T.get_put, if_pos rfl], by rw [T.get_put, if_pos rfl], ?_, fun j hj hjc hju => ?_, fun j hj => .inr ?_, by omega⟩
      · have : addS l w = l ++ [w] := if_pos ⟨z, y⟩
        rw [show (w, k, s, e).1 = w from rfl, this]
        exact B2.hi fun j hj => by rw [T.get_put, if_neg (by omega)]
      · rw [T.get_put, if_neg hjc, k3 j (by omega) hju, T.get_put, if_neg (by omega)]
      · rw [hv] at hj; cases hj; omega
end Go.Mir
namespace Go.Mir
open Go Go.Proofs
set_option maxRecDepth 4000
set_option maxHeartbeats 16000000

/-- the variables of parts, each once -/
def slotsOf (x : LitT) : List SlotT := if x.1 = 1 ∨ x.1 = 2 then [x.2.1.1, x.2.1.2.1, x.2.1.2.2] else [x.2.2.1, x.2.2.2]
def varsOf (x : LitT) : List (List Nat) := (slotsOf x).map Prod.fst
def varsL (b : List LitT) : List (List Nat) := (b.flatMap varsOf).foldl addS []
theorem addS_len {l : List (List Nat)} {w : List Nat} : (addS l w).length ≤ l.length + 1 := by
  unfold addS
  split
  · simp
  · omega
theorem foldS_len : ∀ {ws l : List (List Nat)}, (ws.foldl addS l).length ≤ l.length + ws.length
  | [], l => Nat.le_refl _
  | w :: ws, l => by
    have h1 := foldS_len (ws := ws) (l := addS l w)
    have h2 := addS_len (l := l) (w := w)
    rw [List.foldl_cons, List.length_cons]; omega
theorem varsOf_len {x : LitT} : (varsOf x).length ≤ 3 := by
  unfold varsOf slotsOf
  split <;> simp
theorem varsL_snoc {l : List LitT} {i : Nat} (hi : i < l.length) : varsL (l.take (i + 1)) = (varsOf (l.getD i zLit)).foldl addS (varsL (l.take i)) := by
  unfold varsL
  rw [List.take_succ_eq_append_getElem hi, List.flatMap_append, List.foldl_append, List.getD_eq_getElem?_getD, List.getElem?_eq_getElem hi]
  simp
theorem varsL_len : ∀ {n : Nat} {l : List LitT}, n ≤ l.length → (varsL (l.take n)).length ≤ 3 * n
  | 0, _, _ => by simp [varsL]
  | n + 1, l, h => by
    have ih := varsL_len (n := n) (l := l) (by omega)
    have h1 := foldS_len (ws := varsOf (l.getD n zLit)) (l := varsL (l.take n))
    have h2 := varsOf_len (x := l.getD n zLit)
    rw [varsL_snoc (by omega)]; omega

section
variable {x : LitT} {t : T V} {k : List V → Out}
theorem allOne_lit : allOne (litC x) = true := rfl
theorem lay_0 : (layT t 0 (litC x)).get 0 = some (.int .i64 x.1) := by rw [layT_get, if_pos (by rw [litC_len]; omega)]; rfl
theorem lay_ld {p m : Nat} (h : p + m ≤ 21) : loadN (layT t 0 (litC x)) p m k = k (((litC x).drop p).take m) := by
  have hl : (((litC x).drop p).take m).length = m := by rw [List.length_take, List.length_drop, litC_len]; omega
  have := loadN_of (t := layT t 0 (litC x)) (off := p) (((litC x).drop p).take m) (fun j hj => by
    rw [hl] at hj
    rw [layT_get, if_pos (by rw [litC_len]; omega), Nat.sub_zero, List.getElem?_take, if_pos hj, List.getElem?_drop]) (k := k)
  rw [hl] at this; exact this
theorem lay_P0 : loadN (layT t 0 (litC x)) 1 4 k = k (slotC x.2.1.1) := (lay_ld (by omega)).trans rfl
theorem lay_P1 : loadN (layT t 0 (litC x)) 5 4 k = k (slotC x.2.1.2.1) := (lay_ld (by omega)).trans rfl
theorem lay_P2 : loadN (layT t 0 (litC x)) 9 4 k = k (slotC x.2.1.2.2) := (lay_ld (by omega)).trans rfl
theorem lay_A : loadN (layT t 0 (litC x)) 13 4 k = k (slotC x.2.2.1) := (lay_ld (by omega)).trans rfl
theorem lay_B : loadN (layT t 0 (litC x)) 17 4 k = k (slotC x.2.2.2) := (lay_ld (by omega)).trans rfl
theorem lay_all : loadN (layT t 0 (litC x)) 0 21 k = k (litC x) := (lay_ld (by omega)).trans rfl
end
def mLay := And.intro @allOne_lit <| And.intro @lay_P0 <| And.intro @lay_P1 <| And.intro @lay_P2 <| And.intro @lay_A <| And.intro @lay_B <| @lay_all

theorem see_gro {h hX h2 : T O} {n nX n2 : Nat} {u : V} (G : Gro h n hX nX) (k2 : ∀ j, j < nX → j ≠ n → vid u ≠ some j → h2.get j = hX.get j) (hv : ∀ j, vid u = some j → n < j) (hn : nX ≤ n2) : Gro h n h2 n2 :=
  ⟨Nat.le_trans G.1 hn, fun j hj => (k2 j (by have := G.1; omega) (by omega) fun q => by have := hv j q; omega).trans (G.2 j hj)⟩

theorem vars_ok {h : T O} {n : Nat} {v : V} {l : List LitT} (R : LitIn h n v l) (hl : l.length ≤ 1000) : Fn env0 35 [v] h n (fun u h' n' => SBuf h' n' n u (varsL l) ∧ Gro h n h' n') := by
  refine Fn.mk fn35 rfl fz35 (by simp) fun Q cs K => ?_
  have len : ∀ {hh : T O} {e : Nat} {k : V → Out}, lenIn hh (.slice e) v k = k (.int .i64 (l.length : Int)) := fun {hh e k} => by
    have S := R.1
    generalize l.length = L at S
    cases S with
    | nil => exact lenIn_nil
    | tail => exact lenIn_tail
    | slice => exact lenIn_slice
  have G0 : Gro h n (h.put n (some (.cells (ofT [V.base (.slice none 0 0)]) 1 1))) (n + 1) := (Gro.refl h n).put _
  simp (maxSteps := 2000000) (disch := first | omega | assumption) only [↓mCode, ↓mOps, mAll, seval, vPtr, ite_ne, wrap_i64, boundN_int, fn35, Tryz.f35, makeFuncK_eq, mLit, mLay, ↓lay_0, decide_true, decide_false, len]
  refine W_loopE (fun q regs h1 n1 => ∃ (i : Nat) (u : V) (t : T V), q = l.length - i ∧ i ≤ l.length ∧ regs.get 3 = some (.ptr n 0) ∧ regs.get 4 = some (.func 76 [] [.ptr n 0]) ∧ regs.get 8 = some v ∧ regs.get 9 = some (.int .i64 (l.length : Int)) ∧ regs.get 10 = some (.int .i64 (i : Int)) ∧
      h1.get n = some (.cells t 1 1) ∧ t.get 0 = some u ∧ SBuf h1 n1 (n + 1) u (varsL (l.take i)) ∧ Gro h n h1 n1)
    (fun regs h1 n1 => ∃ (u : V) (t : T V), regs.get 3 = some (.ptr n 0) ∧ h1.get n = some (.cells t 1 1) ∧ t.get 0 = some u ∧ SBuf h1 n1 (n + 1) u (varsL l) ∧ Gro h n h1 n1)
    _ ⟨0, .base (.slice none 0 0), _, rfl, by omega, ?_, ?_, ?_, ?_, ?_, by rw [T.get_put, if_pos rfl], by rw [ofT_get]; rfl, SBuf.nil (Nat.le_refl _), G0⟩ ?_ ?_
  iterate 5
    · simp only [mBase, Nat.reduceEqDiff, Nat.reduceSub, reduceIte] <;> rfl
  · rintro tt hexit q regs h1 n1 ⟨i, u, t, rfl, hi, r3, r4, r8, r9, r10, gn, ht, B, G⟩ IH
    by_cases c1 : i < l.length
    · have c1' : ((i : Int) < (l.length : Int)) = True := eq_true (by omega)
      have R1 := R.ext G
      have vs := varsL_snoc c1
      have vl := varsL_len hi
      obtain ⟨id, off, ex, k, lo, rfl, hlo, hid, L⟩ := R1.get c1
      generalize l.getD i zLit = x at *
      have cX : ∀ {kk : List V → Out}, cellsAt h1 id (off + i * 21) 21 kk = kk (litC x) := fun {kk} => (L.cells (p := 0) (m := 21) (by omega) rfl).trans rfl
      have hn1 : n < n1 := B.1
      have vu : ∀ j, vid u = some j → n < j := fun j q => by have := (B.vid0 q).1; omega
      have vu1 : vid u ≠ some n1 := fun q => by have := (B.vid0 q).2; omega
      have GX : ∀ o o' : O, Gro h1 n1 ((h1.put n1 (some o)).put n1 (some o')) (n1 + 1) := fun o o' => ((Gro.refl h1 n1).put _).set (Nat.le_refl _) _
      by_cases k1 : x.1 = 1
      · have q1 : (x.1 = 1) = True := eq_true k1
        have vx : varsOf x = [x.2.1.1.1, x.2.1.2.1.1, x.2.1.2.2.1] := by unfold varsOf slotsOf; rw [if_pos (by omega)]; rfl
        simp (maxSteps := 2000000) (disch := first | omega | assumption) only [↓mCode, ↓mOps, mAll, seval, vPtr, ite_ne, wrap_i64, boundN_int, fn35, Tryz.f35, makeFuncK_eq, mLit, mLay, ↓lay_0, decide_true, decide_false, r3, r4, r8, r9, r10, c1', ↓cX, q1]
        refine (see_ok (by rw [T.get_put, if_neg (by omega), T.get_put, if_neg (by omega)]; exact gn) ht (B.ext (GX _ _)) (Nat.lt_succ_self n) (by omega)).call e0_hook e0_subs ?_
        rintro _ h2 n2 ⟨rfl, u2, t2, gn2, ht2, B2, k2, kv2, hn2⟩
        have L2 : LitAt h2 n1 0 x := (LitAt.lay (by rw [T.get_put, if_pos rfl]) (by omega)).keep (k2 n1 (by omega) (by omega) vu1)
        have G2 : Gro h n h2 n2 := see_gro (G.trans (GX _ _)) k2 vu hn2
        have w2 : vid u2 ≠ some n1 := fun q => by rcases kv2 _ q with q | q; exact vu1 q; omega
        have a2 := addS_len (l := varsL (l.take i)) (w := x.2.1.1.1)
        have d2 : ∀ {kk : List V → Out}, cellsAt h2 n1 5 4 kk = kk (slotC x.2.1.2.1) := fun {kk} => (L2.cells (p := 5) (m := 4) (by omega) (by omega)).trans rfl
        simp (maxSteps := 2000000) (disch := first | omega | assumption) only [↓mCode, ↓mOps, mAll, seval, vPtr, ite_ne, wrap_i64, boundN_int, fn35, Tryz.f35, makeFuncK_eq, mLit, mLay, ↓lay_0, decide_true, decide_false, r3, r4, r8, r9, r10, ↓d2]
        refine (see_ok gn2 ht2 B2 (Nat.lt_succ_self n) (by omega)).call e0_hook e0_subs ?_
        rintro _ h3 n3 ⟨rfl, u3, t3, gn3, ht3, B3, k3, kv3, hn3⟩
        have L3 : LitAt h3 n1 0 x := L2.keep (k3 n1 (by omega) (by omega) w2)
        have G3 : Gro h n h3 n3 := see_gro G2 k3 (fun j q => by have := (B2.vid0 q).1; omega) hn3
        have w3 : vid u3 ≠ some n1 := fun q => by rcases kv3 _ q with q | q; exact w2 q; omega
        have a3 := addS_len (l := (addS (varsL (l.take i)) x.2.1.1.1)) (w := x.2.1.2.1.1)
        have d3 : ∀ {kk : List V → Out}, cellsAt h3 n1 9 4 kk = kk (slotC x.2.1.2.2) := fun {kk} => (L3.cells (p := 9) (m := 4) (by omega) (by omega)).trans rfl
        simp (maxSteps := 2000000) (disch := first | omega | assumption) only [↓mCode, ↓mOps, mAll, seval, vPtr, ite_ne, wrap_i64, boundN_int, fn35, Tryz.f35, makeFuncK_eq, mLit, mLay, ↓lay_0, decide_true, decide_false, r3, r4, r8, r9, r10, ↓d3]
        refine (see_ok gn3 ht3 B3 (Nat.lt_succ_self n) (by omega)).call e0_hook e0_subs ?_
        rintro _ h4 n4 ⟨rfl, u4, t4, gn4, ht4, B4, k4, kv4, hn4⟩
        have L4 : LitAt h4 n1 0 x := L3.keep (k4 n1 (by omega) (by omega) w3)
        have G4 : Gro h n h4 n4 := see_gro G3 k4 (fun j q => by have := (B3.vid0 q).1; omega) hn4
        have w4 : vid u4 ≠ some n1 := fun q => by rcases kv4 _ q with q | q; exact w3 q; omega
        have a4 := addS_len (l := (addS (addS (varsL (l.take i)) x.2.1.1.1) x.2.1.2.1.1)) (w := x.2.1.2.2.1)
        simp (maxSteps := 2000000) (disch := first | omega | assumption) only [↓mCode, ↓mOps, mAll, seval, vPtr, ite_ne, wrap_i64, boundN_int, fn35, Tryz.f35, makeFuncK_eq, mLit, mLay, ↓lay_0, decide_true, decide_false, r3, r4, r8, r9, r10]
        refine IH (l.length - (i + 1)) _ _ _ (by omega) ⟨i + 1, u4, t4, rfl, by omega, ?_, ?_, ?_, ?_, ?_, gn4, ht4, by rw [vs, vx]; exact B4, G4⟩
        iterate 5
          · simp only [mBase, Nat.reduceEqDiff, Nat.reduceSub, reduceIte, r3, r4, r8, r9, r10] <;> rfl
      have q1 : (x.1 = 1) = False := eq_false k1
      by_cases k2 : x.1 = 2
      · have q2 : (x.1 = 2) = True := eq_true k2
        have vx : varsOf x = [x.2.1.1.1, x.2.1.2.1.1, x.2.1.2.2.1] := by unfold varsOf slotsOf; rw [if_pos (by omega)]; rfl
        simp (maxSteps := 2000000) (disch := first | omega | assumption) only [↓mCode, ↓mOps, mAll, seval, vPtr, ite_ne, wrap_i64, boundN_int, fn35, Tryz.f35, makeFuncK_eq, mLit, mLay, ↓lay_0, decide_true, decide_false, r3, r4, r8, r9, r10, c1', ↓cX, q1, q2]
        refine (see_ok (by rw [T.get_put, if_neg (by omega), T.get_put, if_neg (by omega)]; exact gn) ht (B.ext (GX _ _)) (Nat.lt_succ_self n) (by omega)).call e0_hook e0_subs ?_
        rintro _ h2 n2 ⟨rfl, u2, t2, gn2, ht2, B2, k2, kv2, hn2⟩
        have L2 : LitAt h2 n1 0 x := (LitAt.lay (by rw [T.get_put, if_pos rfl]) (by omega)).keep (k2 n1 (by omega) (by omega) vu1)
        have G2 : Gro h n h2 n2 := see_gro (G.trans (GX _ _)) k2 vu hn2
        have w2 : vid u2 ≠ some n1 := fun q => by rcases kv2 _ q with q | q; exact vu1 q; omega
        have a2 := addS_len (l := varsL (l.take i)) (w := x.2.1.1.1)
        have d2 : ∀ {kk : List V → Out}, cellsAt h2 n1 5 4 kk = kk (slotC x.2.1.2.1) := fun {kk} => (L2.cells (p := 5) (m := 4) (by omega) (by omega)).trans rfl
        simp (maxSteps := 2000000) (disch := first | omega | assumption) only [↓mCode, ↓mOps, mAll, seval, vPtr, ite_ne, wrap_i64, boundN_int, fn35, Tryz.f35, makeFuncK_eq, mLit, mLay, ↓lay_0, decide_true, decide_false, r3, r4, r8, r9, r10, ↓d2]
        refine (see_ok gn2 ht2 B2 (Nat.lt_succ_self n) (by omega)).call e0_hook e0_subs ?_
        rintro _ h3 n3 ⟨rfl, u3, t3, gn3, ht3, B3, k3, kv3, hn3⟩
        have L3 : LitAt h3 n1 0 x := L2.keep (k3 n1 (by omega) (by omega) w2)
        have G3 : Gro h n h3 n3 := see_gro G2 k3 (fun j q => by have := (B2.vid0 q).1; omega) hn3
        have w3 : vid u3 ≠ some n1 := fun q => by rcases kv3 _ q with q | q; exact w2 q; omega
        have a3 := addS_len (l := (addS (varsL (l.take i)) x.2.1.1.1)) (w := x.2.1.2.1.1)
        have d3 : ∀ {kk : List V → Out}, cellsAt h3 n1 9 4 kk = kk (slotC x.2.1.2.2) := fun {kk} => (L3.cells (p := 9) (m := 4) (by omega) (by omega)).trans rfl
        simp (maxSteps := 2000000) (disch := first | omega | assumption) only [↓mCode, ↓mOps, mAll, seval, vPtr, ite_ne, wrap_i64, boundN_int, fn35, Tryz.f35, makeFuncK_eq, mLit, mLay, ↓lay_0, decide_true, decide_false, r3, r4, r8, r9, r10, ↓d3]
        refine (see_ok gn3 ht3 B3 (Nat.lt_succ_self n) (by omega)).call e0_hook e0_subs ?_
        rintro _ h4 n4 ⟨rfl, u4, t4, gn4, ht4, B4, k4, kv4, hn4⟩
        have L4 : LitAt h4 n1 0 x := L3.keep (k4 n1 (by omega) (by omega) w3)
        have G4 : Gro h n h4 n4 := see_gro G3 k4 (fun j q => by have := (B3.vid0 q).1; omega) hn4
        have w4 : vid u4 ≠ some n1 := fun q => by rcases kv4 _ q with q | q; exact w3 q; omega
        have a4 := addS_len (l := (addS (addS (varsL (l.take i)) x.2.1.1.1) x.2.1.2.1.1)) (w := x.2.1.2.2.1)
        simp (maxSteps := 2000000) (disch := first | omega | assumption) only [↓mCode, ↓mOps, mAll, seval, vPtr, ite_ne, wrap_i64, boundN_int, fn35, Tryz.f35, makeFuncK_eq, mLit, mLay, ↓lay_0, decide_true, decide_false, r3, r4, r8, r9, r10]
        refine IH (l.length - (i + 1)) _ _ _ (by omega) ⟨i + 1, u4, t4, rfl, by omega, ?_, ?_, ?_, ?_, ?_, gn4, ht4, by rw [vs, vx]; exact B4, G4⟩
        iterate 5
          · simp only [mBase, Nat.reduceEqDiff, Nat.reduceSub, reduceIte, r3, r4, r8, r9, r10] <;> rfl
      have q2 : (x.1 = 2) = False := eq_false k2
      have vx : varsOf x = [x.2.2.1.1, x.2.2.2.1] := by unfold varsOf slotsOf; rw [if_neg (by omega)]; rfl
      simp (maxSteps := 2000000) (disch := first | omega | assumption) only [↓mCode, ↓mOps, mAll, seval, vPtr, ite_ne, wrap_i64, boundN_int, fn35, Tryz.f35, makeFuncK_eq, mLit, mLay, ↓lay_0, decide_true, decide_false, r3, r4, r8, r9, r10, c1', ↓cX, q1, q2]
      refine (see_ok (by rw [T.get_put, if_neg (by omega), T.get_put, if_neg (by omega)]; exact gn) ht (B.ext (GX _ _)) (Nat.lt_succ_self n) (by omega)).call e0_hook e0_subs ?_
      rintro _ h2 n2 ⟨rfl, u2, t2, gn2, ht2, B2, k2, kv2, hn2⟩
      have L2 : LitAt h2 n1 0 x := (LitAt.lay (by rw [T.get_put, if_pos rfl]) (by omega)).keep (k2 n1 (by omega) (by omega) vu1)
      have G2 : Gro h n h2 n2 := see_gro (G.trans (GX _ _)) k2 vu hn2
      have w2 : vid u2 ≠ some n1 := fun q => by rcases kv2 _ q with q | q; exact vu1 q; omega
      have a2 := addS_len (l := varsL (l.take i)) (w := x.2.2.1.1)
      have d2 : ∀ {kk : List V → Out}, cellsAt h2 n1 17 4 kk = kk (slotC x.2.2.2) := fun {kk} => (L2.cells (p := 17) (m := 4) (by omega) (by omega)).trans rfl
      simp (maxSteps := 2000000) (disch := first | omega | assumption) only [↓mCode, ↓mOps, mAll, seval, vPtr, ite_ne, wrap_i64, boundN_int, fn35, Tryz.f35, makeFuncK_eq, mLit, mLay, ↓lay_0, decide_true, decide_false, r3, r4, r8, r9, r10, ↓d2]
      refine (see_ok gn2 ht2 B2 (Nat.lt_succ_self n) (by omega)).call e0_hook e0_subs ?_
      rintro _ h3 n3 ⟨rfl, u3, t3, gn3, ht3, B3, k3, kv3, hn3⟩
      have L3 : LitAt h3 n1 0 x := L2.keep (k3 n1 (by omega) (by omega) w2)
      have G3 : Gro h n h3 n3 := see_gro G2 k3 (fun j q => by have := (B2.vid0 q).1; omega) hn3
      have w3 : vid u3 ≠ some n1 := fun q => by rcases kv3 _ q with q | q; exact w2 q; omega
      have a3 := addS_len (l := (addS (varsL (l.take i)) x.2.2.1.1)) (w := x.2.2.2.1)
      simp (maxSteps := 2000000) (disch := first | omega | assumption) only [↓mCode, ↓mOps, mAll, seval, vPtr, ite_ne, wrap_i64, boundN_int, fn35, Tryz.f35, makeFuncK_eq, mLit, mLay, ↓lay_0, decide_true, decide_false, r3, r4, r8, r9, r10]
      refine IH (l.length - (i + 1)) _ _ _ (by omega) ⟨i + 1, u3, t3, rfl, by omega, ?_, ?_, ?_, ?_, ?_, gn3, ht3, by rw [vs, vx]; exact B3, G3⟩
      iterate 5
        · simp only [mBase, Nat.reduceEqDiff, Nat.reduceSub, reduceIte, r3, r4, r8, r9, r10] <;> rfl
    · have e : i = l.length := by omega
      have c1' : ((i : Int) < (l.length : Int)) = False := eq_false (by omega)
      subst e
      simp (maxSteps := 2000000) (disch := first | omega | assumption) only [↓mCode, ↓mOps, mAll, seval, vPtr, ite_ne, wrap_i64, boundN_int, fn35, Tryz.f35, makeFuncK_eq, mLit, mLay, ↓lay_0, decide_true, decide_false, r3, r4, r8, r9, r10, c1']
      exact hexit _ _ _ ⟨u, t, by simp only [mBase, Nat.reduceEqDiff, Nat.reduceSub, reduceIte, r3], gn, ht, by rwa [List.take_length] at B, G⟩
  · rintro regs h1 n1 ⟨u, t, r3, gn, ht, B, G⟩
    have c0 : ∀ {kk : V → Out}, cellAt h1 n 0 kk = kk u := fun {kk} => by rw [cellAt_eq, gn, om_some, rCells_cells, need_ble (by omega), ht, om_some]
    simp (maxSteps := 2000000) (disch := first | omega | assumption) only [↓mCode, ↓mOps, mAll, seval, vPtr, ite_ne, wrap_i64, boundN_int, fn35, Tryz.f35, makeFuncK_eq, mLit, mLay, ↓lay_0, decide_true, decide_false, r3, c0]
    exact K _ _ _ ⟨B.weak (by omega), G⟩
end Go.Mir
