/- Walks: may a term be (the reference's May)? -/
import Derived.Test.YthninknobjneeaaGreatDoorTexN
set_option linter.unusedSimpArgs false
set_option linter.unusedVariables false
namespace Go.Mir
open Go Go.Proofs
set_option maxRecDepth 4000
set_option maxHeartbeats 8000000

def smallB (c : Nat) : Bool := decide (97 ≤ c) && decide (c ≤ 122)
def tagAt (s : List Nat) (j c : Nat) : Prop := (c = 45 → 1 ≤ j ∧ s[j - 1]? ≠ some 45) ∧ (c ≠ 45 → smallB c = true ∨ (digitB c = true ∧ ∃ i, i < j ∧ s[i]? = some 45))
def tagOk (s : List Nat) : Prop := 1 ≤ s.length ∧ s.length ≤ 35 ∧ s[0]? ≠ some 45 ∧ s[s.length - 1]? ≠ some 45 ∧ ∀ j c, s[j]? = some c → tagAt s j c
noncomputable def tagB (s : List Nat) : Bool := @decide (tagOk s) (Classical.propDecidable _)
theorem tagB_t {s : List Nat} (h : tagOk s) : tagB s = true := @decide_eq_true _ (Classical.propDecidable _) h
theorem tagB_f {s : List Nat} (h : ¬ tagOk s) : tagB s = false := @decide_eq_false _ (Classical.propDecidable _) h

theorem tag02_ok {s : List Nat} {h : T O} {n : Nat} (hl : s.length ≤ 4611686018427387903) : Fn env0 46 [.str s] h n (fun v h' n' => v = .bool (tagB s) ∧ h' = h ∧ n' = n) := by
  refine Fn.mk fn46 rfl fz46 (by simp) fun Q cs K => ?_
  by_cases l1 : s.length < 1
  · have l1' : ((s.length : Int) < 1) = True := eq_true (by omega)
    simp (maxSteps := 2000000) (disch := first | omega | assumption) only [↓mCode, ↓mOps, mAll, seval, vPtr, ite_ne, wrap_i64, boundN_int, fn46, Tryz.f46, l1']
    exact K _ _ _ ⟨by rw [tagB_f fun h => absurd h.1 (by omega)], rfl, rfl⟩
  have l1' : ((s.length : Int) < 1) = False := eq_false (by omega)
  by_cases l2 : s.length > 35
  · have l2' : ((s.length : Int) > 35) = True := eq_true (by omega)
    simp (maxSteps := 2000000) (disch := first | omega | assumption) only [↓mCode, ↓mOps, mAll, seval, vPtr, ite_ne, wrap_i64, boundN_int, fn46, Tryz.f46, l1', l2']
    exact K _ _ _ ⟨by rw [tagB_f fun h => absurd h.2.1 (by omega)], rfl, rfl⟩
  have l2' : ((s.length : Int) > 35) = False := eq_false (by omega)
  obtain ⟨c0, hc0⟩ : ∃ x, s[0]? = some x := ⟨_, List.getElem?_eq_getElem (by omega)⟩
  obtain ⟨cz, hcz⟩ : ∃ x, s[s.length - 1]? = some x := ⟨_, List.getElem?_eq_getElem (by omega)⟩
  have ez : ((s.length : Int) - 1).toNat = s.length - 1 := by omega
  by_cases b0 : c0 = 45
  · have b0' : ((c0 : Int) = 45) = True := eq_true (by omega)
    simp (maxSteps := 2000000) (disch := first | omega | assumption) only [↓mCode, ↓mOps, mAll, seval, vPtr, ite_ne, wrap_i64, boundN_int, fn46, Tryz.f46, l1', l2', hc0, b0']
    exact K _ _ _ ⟨by rw [tagB_f fun h => h.2.2.1 (by rw [hc0, b0])], rfl, rfl⟩
  have b0' : ((c0 : Int) = 45) = False := eq_false (by omega)
  by_cases bz : cz = 45
  · have bz' : ((cz : Int) = 45) = True := eq_true (by omega)
    simp (maxSteps := 2000000) (disch := first | omega | assumption) only [↓mCode, ↓mOps, mAll, seval, vPtr, ite_ne, wrap_i64, boundN_int, fn46, Tryz.f46, l1', l2', hc0, b0', ez, hcz, bz']
    exact K _ _ _ ⟨by rw [tagB_f fun h => h.2.2.2.1 (by rw [hcz, bz])], rfl, rfl⟩
  have bz' : ((cz : Int) = 45) = False := eq_false (by omega)
  simp (maxSteps := 2000000) (disch := first | omega | assumption) only [↓mCode, ↓mOps, mAll, seval, vPtr, ite_ne, wrap_i64, boundN_int, fn46, Tryz.f46, l1', l2', hc0, b0', ez, hcz, bz']
  refine W_loop (fun q regs h' n' => ∃ (i : Nat) (f : Bool), q = s.length - i ∧ i ≤ s.length ∧ regs.get 0 = some (.str s) ∧ regs.get 3 = some (.bool f) ∧ regs.get 4 = some (.int .i64 (i : Int)) ∧ (f = false ↔ ∃ j, j < i ∧ s[j]? = some 45) ∧ (∀ j x, j < i → s[j]? = some x → tagAt s j x) ∧ h' = h ∧ n' = n)
    _ ⟨0, true, rfl, by omega, ?_, ?_, ?_, ⟨fun e => (by cases e), fun ⟨j, hj, _⟩ => absurd hj (by omega)⟩, fun j x hj => absurd hj (by omega), rfl, rfl⟩ ?_
  iterate 3
    · simp only [mBase, Nat.reduceEqDiff, Nat.reduceSub, reduceIte] <;> rfl
  rintro q regs h' n' ⟨i, f, rfl, hi, r0, r3, r4, hf, hx, rfl, rfl⟩ IH
  by_cases c1 : i < s.length
  · have c1' : (i : Int) < (s.length : Int) := by omega
    obtain ⟨c, hc⟩ : ∃ x, s[i]? = some x := ⟨_, List.getElem?_eq_getElem c1⟩
    have step : tagAt s i c → ∀ j x, j < i + 1 → s[j]? = some x → tagAt s j x := fun hg j x hj hjx => by
      by_cases e : j = i
      · subst e; rw [hc] at hjx; cases hjx; exact hg
      · exact hx j x (by omega) hjx
    by_cases cd : c = 45
    · have cd' : ((c : Int) = 45) = True := eq_true (by omega)
      have f1 : ((97 : Int) ≤ (c : Int)) = False := eq_false (by omega)
      have i0 : i ≠ 0 := by rintro rfl; rw [hc0] at hc; cases hc; exact b0 cd
      obtain ⟨d, hd⟩ : ∃ x, s[i - 1]? = some x := ⟨_, List.getElem?_eq_getElem (by omega)⟩
      have ei : ((i : Int) - 1).toNat = i - 1 := by omega
      by_cases dd : d = 45
      · have dd' : ((d : Int) = 45) = True := eq_true (by omega)
        simp (maxSteps := 2000000) (disch := first | omega | assumption) only [↓mCode, ↓mOps, mAll, seval, vPtr, ite_ne, wrap_i64, boundN_int, fn46, Tryz.f46, r0, r3, r4, c1', hc, cd', f1, ei, hd, dd']
        exact K _ _ _ ⟨by rw [tagB_f fun h => ((h.2.2.2.2 i c hc).1 cd).2 (by rw [hd, dd])], rfl, rfl⟩
      · have dd' : ((d : Int) = 45) = False := eq_false (by omega)
        simp (maxSteps := 2000000) (disch := first | omega | assumption) only [↓mCode, ↓mOps, mAll, seval, vPtr, ite_ne, wrap_i64, boundN_int, fn46, Tryz.f46, r0, r3, r4, c1', hc, cd', f1, ei, hd, dd']
        exact IH (s.length - (i + 1)) _ _ _ (by omega) ⟨i + 1, false, rfl, by omega, by simp only [mBase, Nat.reduceEqDiff, Nat.reduceSub, reduceIte, r0], by simp only [mBase, Nat.reduceEqDiff, Nat.reduceSub, reduceIte, r3], by simp only [mBase, Nat.reduceEqDiff, Nat.reduceSub, reduceIte, r4] <;> rfl, ⟨fun _ => ⟨i, by omega, by rw [hc, cd]⟩, fun _ => rfl⟩,
          step ⟨fun _ => ⟨by omega, by rw [hd]; intro e; cases e; exact dd rfl⟩, fun e => absurd cd e⟩, rfl, rfl⟩
    · have cd' : ((c : Int) = 45) = False := eq_false (by omega)
      have hf2 : f = false ↔ ∃ j, j < i + 1 ∧ s[j]? = some 45 := by
        rw [hf]
        constructor
        · rintro ⟨j, hj, e⟩; exact ⟨j, by omega, e⟩
        · rintro ⟨j, hj, e⟩
          by_cases ej : j = i
          · subst ej; rw [hc] at e; cases e; exact absurd rfl cd
          · exact ⟨j, by omega, e⟩
      by_cases sm : smallB c = true
      · have hsm : 97 ≤ c ∧ c ≤ 122 := by simpa [smallB] using sm
        have f1 : ((97 : Int) ≤ (c : Int)) = True := eq_true (by omega)
        have f2 : ((c : Int) ≤ 122) = True := eq_true (by omega)
        simp (maxSteps := 2000000) (disch := first | omega | assumption) only [↓mCode, ↓mOps, mAll, seval, vPtr, ite_ne, wrap_i64, boundN_int, fn46, Tryz.f46, r0, r3, r4, c1', hc, cd', f1, f2, Bool.not_true, decide_true]
        exact IH (s.length - (i + 1)) _ _ _ (by omega) ⟨i + 1, f, rfl, by omega, by simp only [mBase, Nat.reduceEqDiff, Nat.reduceSub, reduceIte, r0], by simp only [mBase, Nat.reduceEqDiff, Nat.reduceSub, reduceIte, r3], by simp only [mBase, Nat.reduceEqDiff, Nat.reduceSub, reduceIte, r4] <;> rfl, hf2, step ⟨fun e => absurd e cd, fun _ => .inl sm⟩, rfl, rfl⟩
      · have hsm : ¬ (97 ≤ c ∧ c ≤ 122) := by intro h; exact sm (by simpa [smallB] using h)
        rcases (by omega : c < 97 ∨ (97 ≤ c ∧ 122 < c)) with z | z
        all_goals
          first | (have f1 : ((97 : Int) ≤ (c : Int)) = False := eq_false (by omega)) | (have f1 : ((97 : Int) ≤ (c : Int)) = True := eq_true (by omega))
          first | (have f2 : ((c : Int) ≤ 122) = False := eq_false (by omega)) | (have f2 : ((c : Int) ≤ 122) = True := eq_true (by omega))
          cases f with
          | true =>
            simp (maxSteps := 2000000) (disch := first | omega | assumption) only [↓mCode, ↓mOps, mAll, seval, vPtr, ite_ne, wrap_i64, boundN_int, fn46, Tryz.f46, r0, r3, r4, c1', hc, cd', f1, f2, Bool.not_false, decide_false]
            refine K _ _ _ ⟨?_, rfl, rfl⟩
            rw [tagB_f fun h => ?_]
            rcases (h.2.2.2.2 i c hc).2 cd with e | ⟨_, e⟩
            · exact sm e
            · have := hf.2 e; cases this
          | false =>
            simp (maxSteps := 2000000) (disch := first | omega | assumption) only [↓mCode, ↓mOps, mAll, seval, vPtr, ite_ne, wrap_i64, boundN_int, fn46, Tryz.f46, r0, r3, r4, c1', hc, cd', f1, f2, Bool.not_false, decide_false]
            refine digit02_ok.call e0_hook e0_subs ?_
            rintro _ h' n' ⟨rfl, rfl, rfl⟩
            by_cases b2 : digitB c = true
            · simp (maxSteps := 2000000) (disch := first | omega | assumption) only [↓mCode, ↓mOps, mAll, seval, vPtr, ite_ne, wrap_i64, boundN_int, fn46, Tryz.f46, r0, r3, r4, hc, b2, Bool.not_true, decide_true]
              exact IH (s.length - (i + 1)) _ _ _ (by omega) ⟨i + 1, false, rfl, by omega, by simp only [mBase, Nat.reduceEqDiff, Nat.reduceSub, reduceIte, r0], by simp only [mBase, Nat.reduceEqDiff, Nat.reduceSub, reduceIte, r3], by simp only [mBase, Nat.reduceEqDiff, Nat.reduceSub, reduceIte, r4] <;> rfl, hf2, step ⟨fun e => absurd e cd, fun _ => .inr ⟨b2, hf.1 rfl⟩⟩, rfl, rfl⟩
            · have b2' : digitB c = false := by simpa using b2
              simp (maxSteps := 2000000) (disch := first | omega | assumption) only [↓mCode, ↓mOps, mAll, seval, vPtr, ite_ne, wrap_i64, boundN_int, fn46, Tryz.f46, r0, r3, r4, hc, b2', Bool.not_false, decide_false]
              refine K _ _ _ ⟨?_, rfl, rfl⟩
              rw [tagB_f fun h => ?_]
              rcases (h.2.2.2.2 i c hc).2 cd with e | ⟨e, _⟩
              · exact sm e
              · exact b2 e
  · have c1' : ¬ (i : Int) < (s.length : Int) := by omega
    simp (maxSteps := 2000000) (disch := first | omega | assumption) only [↓mCode, ↓mOps, mAll, seval, vPtr, ite_ne, wrap_i64, boundN_int, fn46, Tryz.f46, r0, r3, r4, c1']
    refine K _ _ _ ⟨?_, rfl, rfl⟩
    rw [tagB_t ⟨by omega, by omega, by rw [hc0]; intro e; cases e; exact b0 rfl, by rw [hcz]; intro e; cases e; exact bz rfl, fun j x hj => hx j x (by have := (List.getElem?_eq_some_iff.1 hj).1; omega) hj⟩]
end Go.Mir
namespace Go.Mir
open Go Go.Proofs
set_option maxRecDepth 4000
set_option maxHeartbeats 8000000

def valB (s : List Nat) : Bool := decide (s.length ≤ 4000) && decide (endR s = s.length)

theorem value_ok {s : List Nat} {h : T O} {n : Nat} (hb : ∀ c ∈ s, c < 256) (hl : s.length ≤ 4611686018427387903) : Fn env0 86 [.str s] h n (fun v h' n' => v = .bool (valB s) ∧ Gro h n h' n') := by
  refine Fn.mk fn86 rfl fz86 (by simp) fun Q cs K => ?_
  by_cases l1 : s.length ≤ 4000
  · have l1' : ((s.length : Int) ≤ 4000) = True := eq_true (by omega)
    simp (maxSteps := 2000000) (disch := first | omega | assumption) only [↓mCode, ↓mOps, mAll, seval, vPtr, ite_ne, wrap_i64, boundN_int, fn86, Tryz.f86, l1']
    refine (valid_ok hb hl).call e0_hook e0_subs ?_
    rintro _ h1 n1 ⟨rfl, G⟩
    simp (maxSteps := 2000000) (disch := first | omega | assumption) only [↓mCode, ↓mOps, mAll, seval, vPtr, ite_ne, wrap_i64, boundN_int, fn86, Tryz.f86, l1']
    exact K _ _ _ ⟨by unfold valB; rw [decide_eq_true l1, Bool.true_and], G⟩
  · have l1' : ((s.length : Int) ≤ 4000) = False := eq_false (by omega)
    simp (maxSteps := 2000000) (disch := first | omega | assumption) only [↓mCode, ↓mOps, mAll, seval, vPtr, ite_ne, wrap_i64, boundN_int, fn86, Tryz.f86, l1']
    exact K _ _ _ ⟨by unfold valB; rw [decide_eq_false l1, Bool.false_and], Gro.refl _ _⟩

theorem kind1_ok {x : Tm} {h : T O} {n : Nat} (hb : ∀ c ∈ x.2.1, c < 256) (hl : x.2.1.length ≤ 4611686018427387903) : Fn env0 81 [tv x] h n (fun v h' n' => v = .bool (iriB x.2.1 && decide (x.2.2 = [])) ∧ Gro h n h' n') := by
  obtain ⟨k, s, e⟩ := x
  refine Fn.mk fn81 rfl fz81 (by simp) fun Q cs K => ?_
  simp (maxSteps := 2000000) (disch := first | omega | assumption) only [↓mCode, ↓mOps, mAll, seval, vPtr, ite_ne, wrap_i64, boundN_int, fn81, Tryz.f81, tv]
  refine (iri_ok hb hl).call e0_hook e0_subs ?_
  rintro _ h1 n1 ⟨rfl, G⟩
  have G1 : Gro h n h1 n1 := ⟨by have := G.1; omega, fun j hj => by rw [G.2 j (by omega), T.get_put, if_neg (by omega)]⟩
  have gn : h1.get n = some (.cells (ofT [V.int .i64 k, V.str s, V.str e]) 3 3) := by rw [G.2 n (by omega), T.get_put, if_pos rfl]
  have ce : ∀ {k : V → Out}, cellAt h1 n 2 k = k (.str e) := fun {k} => by rw [cellAt_eq, gn]; rfl
  by_cases b : iriB s = true
  · simp (maxSteps := 2000000) (disch := first | omega | assumption) only [↓mCode, ↓mOps, mAll, seval, vPtr, ite_ne, wrap_i64, boundN_int, fn81, Tryz.f81, List.map_nil, b, ce]
    exact K _ _ _ ⟨by rw [b, Bool.true_and], G1⟩
  · have b' : iriB s = false := by simpa using b
    simp (maxSteps := 2000000) (disch := first | omega | assumption) only [↓mCode, ↓mOps, mAll, seval, vPtr, ite_ne, wrap_i64, boundN_int, fn81, Tryz.f81, b', ce]
    exact K _ _ _ ⟨by rw [b', Bool.false_and], G1⟩
end Go.Mir
namespace Go.Mir
open Go Go.Proofs
set_option maxRecDepth 4000
set_option maxHeartbeats 8000000

def xsdL : List Nat := [104, 116, 116, 112, 58, 47, 47, 119, 119, 119, 46, 119, 51, 46, 111, 114, 103, 47, 50, 48, 48, 49, 47, 88, 77, 76, 83, 99, 104, 101, 109, 97, 35, 115, 116, 114, 105, 110, 103]

noncomputable def word64 (s : List Nat) : Bool := wordB s 64
theorem blankG_ok {s : List Nat} {h : T O} {n : Nat} (hl : s.length ≤ 9223372036854775806) : Fn env0 84 [.str s] h n (fun v h' n' => v = .bool (wordB s 64) ∧ Gro h n h' n') :=
  (blank_ok hl).mono fun _ _ _ ⟨a, b, c⟩ => ⟨a, by rw [b, c]; exact Gro.refl _ _⟩

theorem kind2_ok {x : Tm} {h : T O} {n : Nat} (hb : ∀ c ∈ x.2.1, c < 256) (hl : x.2.1.length ≤ 900000) : Fn env0 83 [tv x] h n (fun v h' n' => v = .bool (word64 x.2.1 && decide (x.2.2 = [])) ∧ Gro h n h' n') := by
  obtain ⟨k, s, e⟩ := x
  have hl' : s.length ≤ 900000 := hl
  refine Fn.mk fn83 rfl fz83 (by simp) fun Q cs K => ?_
  simp (maxSteps := 2000000) (disch := first | omega | assumption) only [↓mCode, ↓mOps, mAll, seval, vPtr, ite_ne, wrap_i64, boundN_int, fn83, Tryz.f83, tv]
  refine (blankG_ok (by omega)).call e0_hook e0_subs ?_
  rintro _ h1 n1 ⟨rfl, G⟩
  change Gro _ _ _ _ at G
  rw [show wordB s 64 = word64 s from rfl]
  have G1 : Gro h n h1 n1 := ⟨by have := G.1; omega, fun j hj => by rw [G.2 j (by omega), T.get_put, if_neg (by omega)]⟩
  have gn : h1.get n = some (.cells (ofT [V.int .i64 k, V.str s, V.str e]) 3 3) := by rw [G.2 n (by omega), T.get_put, if_pos rfl]
  have ce : ∀ {k : V → Out}, cellAt h1 n 2 k = k (.str e) := fun {k} => by rw [cellAt_eq, gn]; rfl
  by_cases b : word64 s = true
  · simp (maxSteps := 2000000) (disch := first | omega | assumption) only [↓mCode, ↓mOps, mAll, seval, vPtr, ite_ne, wrap_i64, boundN_int, fn83, Tryz.f83, List.map_nil, b, ce]
    exact K _ _ _ ⟨by rw [b, Bool.true_and], G1⟩
  · have b' : word64 s = false := by simpa using b
    simp (maxSteps := 2000000) (disch := first | omega | assumption) only [↓mCode, ↓mOps, mAll, seval, vPtr, ite_ne, wrap_i64, boundN_int, fn83, Tryz.f83, b', ce]
    exact K _ _ _ ⟨by rw [b', Bool.false_and], G1⟩

theorem kind3_ok {x : Tm} {h : T O} {n : Nat} (hb : ∀ c ∈ x.2.1, c < 256) (hl : x.2.1.length ≤ 900000) : Fn env0 85 [tv x] h n (fun v h' n' => v = .bool (valB x.2.1 && decide (x.2.2 = [])) ∧ Gro h n h' n') := by
  obtain ⟨k, s, e⟩ := x
  have hl' : s.length ≤ 900000 := hl
  refine Fn.mk fn85 rfl fz85 (by simp) fun Q cs K => ?_
  simp (maxSteps := 2000000) (disch := first | omega | assumption) only [↓mCode, ↓mOps, mAll, seval, vPtr, ite_ne, wrap_i64, boundN_int, fn85, Tryz.f85, tv]
  refine (value_ok hb (by omega)).call e0_hook e0_subs ?_
  rintro _ h1 n1 ⟨rfl, G⟩
  have G1 : Gro h n h1 n1 := ⟨by have := G.1; omega, fun j hj => by rw [G.2 j (by omega), T.get_put, if_neg (by omega)]⟩
  have gn : h1.get n = some (.cells (ofT [V.int .i64 k, V.str s, V.str e]) 3 3) := by rw [G.2 n (by omega), T.get_put, if_pos rfl]
  have ce : ∀ {k : V → Out}, cellAt h1 n 2 k = k (.str e) := fun {k} => by rw [cellAt_eq, gn]; rfl
  by_cases b : valB s = true
  · simp (maxSteps := 2000000) (disch := first | omega | assumption) only [↓mCode, ↓mOps, mAll, seval, vPtr, ite_ne, wrap_i64, boundN_int, fn85, Tryz.f85, List.map_nil, b, ce]
    exact K _ _ _ ⟨by rw [b, Bool.true_and], G1⟩
  · have b' : valB s = false := by simpa using b
    simp (maxSteps := 2000000) (disch := first | omega | assumption) only [↓mCode, ↓mOps, mAll, seval, vPtr, ite_ne, wrap_i64, boundN_int, fn85, Tryz.f85, b', ce]
    exact K _ _ _ ⟨by rw [b', Bool.false_and], G1⟩

theorem kind5_ok {x : Tm} {h : T O} {n : Nat} (hb : ∀ c ∈ x.2.1, c < 256) (hl : x.2.1.length ≤ 900000) (hb2 : ∀ c ∈ x.2.2, c < 256) (hl2 : x.2.2.length ≤ 900000) : Fn env0 89 [tv x] h n (fun v h' n' => v = .bool (valB x.2.1 && (iriB x.2.2 && decide (x.2.2 ≠ xsdL))) ∧ Gro h n h' n') := by
  obtain ⟨k, s, e⟩ := x
  have hl' : s.length ≤ 900000 := hl
  refine Fn.mk fn89 rfl fz89 (by simp) fun Q cs K => ?_
  simp (maxSteps := 2000000) (disch := first | omega | assumption) only [↓mCode, ↓mOps, mAll, seval, vPtr, ite_ne, wrap_i64, boundN_int, fn89, Tryz.f89, tv]
  refine (value_ok hb (by omega)).call e0_hook e0_subs ?_
  rintro _ h1 n1 ⟨rfl, G⟩
  have G1 : Gro h n h1 n1 := ⟨by have := G.1; omega, fun j hj => by rw [G.2 j (by omega), T.get_put, if_neg (by omega)]⟩
  have gn : h1.get n = some (.cells (ofT [V.int .i64 k, V.str s, V.str e]) 3 3) := by rw [G.2 n (by omega), T.get_put, if_pos rfl]
  have ce : ∀ {k : V → Out}, cellAt h1 n 2 k = k (.str e) := fun {k} => by rw [cellAt_eq, gn]; rfl
  have nn1 : n < n1 := by have := G.1; omega
  by_cases b : valB s = true
  · simp (maxSteps := 2000000) (disch := first | omega | assumption) only [↓mCode, ↓mOps, mAll, seval, vPtr, ite_ne, wrap_i64, boundN_int, fn89, Tryz.f89, b, ce]
    refine (iri_ok hb2 (by omega)).call e0_hook e0_subs ?_
    rintro _ h2 n2 ⟨rfl, G2⟩
    have gn2 : h2.get n = some (.cells (ofT [V.int .i64 k, V.str s, V.str e]) 3 3) := by rw [G2.2 n nn1]; exact gn
    have ce2 : ∀ {k : V → Out}, cellAt h2 n 2 k = k (.str e) := fun {k} => by rw [cellAt_eq, gn2]; rfl
    by_cases b2 : iriB e = true
    · simp (maxSteps := 2000000) (disch := first | omega | assumption) only [↓mCode, ↓mOps, mAll, seval, vPtr, ite_ne, wrap_i64, boundN_int, fn89, Tryz.f89, List.map_nil, List.map_cons, b2, ce2]
      exact K _ _ _ ⟨by rw [b, b2, Bool.true_and, Bool.true_and]; rfl, G1.trans G2⟩
    · have b2' : iriB e = false := by simpa using b2
      simp (maxSteps := 2000000) (disch := first | omega | assumption) only [↓mCode, ↓mOps, mAll, seval, vPtr, ite_ne, wrap_i64, boundN_int, fn89, Tryz.f89, b2', ce2]
      exact K _ _ _ ⟨by rw [b, b2', Bool.true_and, Bool.false_and], G1.trans G2⟩
  · have b' : valB s = false := by simpa using b
    simp (maxSteps := 2000000) (disch := first | omega | assumption) only [↓mCode, ↓mOps, mAll, seval, vPtr, ite_ne, wrap_i64, boundN_int, fn89, Tryz.f89, b', ce]
    exact K _ _ _ ⟨by rw [b', Bool.false_and], G1⟩
end Go.Mir
namespace Go.Mir
open Go Go.Proofs
set_option maxRecDepth 4000
set_option maxHeartbeats 16000000

/-- may a term be? -/
noncomputable def mayT (x : Tm) : Bool := if x.1 = 1 then iriB x.2.1 && decide (x.2.2 = []) else if x.1 = 2 then word64 x.2.1 && decide (x.2.2 = []) else if x.1 = 3 then valB x.2.1 && decide (x.2.2 = [])
  else if x.1 = 4 then valB x.2.1 && tagB x.2.2 else if x.1 = 5 then valB x.2.1 && (iriB x.2.2 && decide (x.2.2 ≠ xsdL)) else false

theorem wordG02_ok {s : List Nat} {h : T O} {n : Nat} (hl : s.length ≤ 9223372036854775806) : Fn env0 45 [.str s, .int .i64 64] h n (fun v h' n' => v = .bool (wordB s 64) ∧ Gro h n h' n') :=
  (word02_ok (m := 64) (by omega)).mono fun _ _ _ ⟨a, b, c⟩ => ⟨a, by rw [b, c]; exact Gro.refl _ _⟩

theorem may02_ok {x : Tm} {h : T O} {n : Nat} (hb : ∀ c ∈ x.2.1, c < 256) (hl : x.2.1.length ≤ 900000) (hb2 : ∀ c ∈ x.2.2, c < 256) (hl2 : x.2.2.length ≤ 900000) : Fn env0 24 [tv x] h n (fun v h' n' => v = .bool (mayT x) ∧ Gro h n h' n') := by
  obtain ⟨k, s, e⟩ := x
  have hl' : s.length ≤ 900000 := hl
  have hl2' : e.length ≤ 900000 := hl2
  refine Fn.mk fn24 rfl fz24 (by simp) fun Q cs K => ?_
  have GB : Gro h n (h.put n (some (.cells (ofT [V.int .i64 k, V.str s, V.str e]) 3 3))) (n + 1) := (Gro.refl h n).put _
  have bn : (h.put n (some (.cells (ofT [V.int .i64 k, V.str s, V.str e]) 3 3))).get n = some (.cells (ofT [V.int .i64 k, V.str s, V.str e]) 3 3) := by rw [T.get_put, if_pos rfl]
  rcases (by omega : k = 1 ∨ k = 2 ∨ k = 3 ∨ k = 4 ∨ k = 5 ∨ (k ≠ 1 ∧ k ≠ 2 ∧ k ≠ 3 ∧ k ≠ 4 ∧ k ≠ 5)) with z | z | z | z | z | z
  · have q1 : (k = 1) = True := eq_true (by omega)
    have mk : mayT (k, s, e) = (iriB s && decide (e = [])) := by
      show (if k = 1 then _ else if k = 2 then _ else if k = 3 then _ else if k = 4 then _ else if k = 5 then _ else _) = _
      rw [if_pos z]
    by_cases l1 : s.length ≤ 4000
    · have l1' : ((s.length : Int) ≤ 4000) = True := eq_true (by omega)
      simp (maxSteps := 2000000) (disch := first | omega | assumption) only [↓mCode, ↓mOps, mAll, seval, vPtr, ite_ne, wrap_i64, boundN_int, fn24, Tryz.f24, tv, List.map_nil, l1']
      refine (valid01_ok hb (by omega)).call e0_hook e0_subs ?_
      rintro _ h1 n1 ⟨rfl, G⟩
      have G1 := GB.trans G
      have gn : h1.get n = some (.cells (ofT [V.int .i64 k, V.str s, V.str e]) 3 3) := by rw [G.2 n (by omega)]; exact bn
      have nn1 : n < n1 := by have := G.1; omega
      have c0 : ∀ {k' : V → Out}, cellAt h1 n 0 k' = k' (.int .i64 k) := fun {k'} => by rw [cellAt_eq, gn]; rfl
      have c1 : ∀ {k' : V → Out}, cellAt h1 n 1 k' = k' (.str s) := fun {k'} => by rw [cellAt_eq, gn]; rfl
      have c2 : ∀ {k' : V → Out}, cellAt h1 n 2 k' = k' (.str e) := fun {k'} => by rw [cellAt_eq, gn]; rfl
      have vb : valB s = decide (endR s = s.length) := by unfold valB; rw [decide_eq_true l1, Bool.true_and]
      generalize decide (endR s = s.length) = vv at *
      simp (maxSteps := 2000000) (disch := first | omega | assumption) only [↓mCode, ↓mOps, mAll, seval, vPtr, ite_ne, wrap_i64, boundN_int, fn24, Tryz.f24, tv, List.map_nil, l1', c0, c1, c2, q1]
      refine (iri02_ok hb (by omega)).call e0_hook e0_subs ?_
      rintro _ h2 n2 ⟨rfl, G2⟩
      have G3 := G1.trans G2
      have gn2 : h2.get n = some (.cells (ofT [V.int .i64 k, V.str s, V.str e]) 3 3) := by rw [G2.2 n (by omega)]; exact gn
      have ce2 : ∀ {k : V → Out}, cellAt h2 n 2 k = k (.str e) := fun {k} => by rw [cellAt_eq, gn2]; rfl
      by_cases b : iriB s = true
      · simp (maxSteps := 2000000) (disch := first | omega | assumption) only [↓mCode, ↓mOps, mAll, seval, vPtr, ite_ne, wrap_i64, boundN_int, fn24, Tryz.f24, tv, List.map_nil, ce2, b]
        exact K _ _ _ ⟨by rw [mk, b, Bool.true_and], G3⟩
      · have b' : iriB s = false := by simpa using b
        simp (maxSteps := 2000000) (disch := first | omega | assumption) only [↓mCode, ↓mOps, mAll, seval, vPtr, ite_ne, wrap_i64, boundN_int, fn24, Tryz.f24, tv, List.map_nil, ce2, b']
        exact K _ _ _ ⟨by rw [mk, b', Bool.false_and], G3⟩
    · have l1' : ((s.length : Int) ≤ 4000) = False := eq_false (by omega)
      have vb : valB s = false := by unfold valB; rw [decide_eq_false l1, Bool.false_and]
      have gn := bn
      simp (maxSteps := 2000000) (disch := first | omega | assumption) only [↓mCode, ↓mOps, mAll, seval, vPtr, ite_ne, wrap_i64, boundN_int, fn24, Tryz.f24, tv, List.map_nil, l1', q1]
      refine (iri02_ok hb (by omega)).call e0_hook e0_subs ?_
      rintro _ h2 n2 ⟨rfl, G2⟩
      have G3 := GB.trans G2
      have gn2 : h2.get n = some (.cells (ofT [V.int .i64 k, V.str s, V.str e]) 3 3) := by rw [G2.2 n (by omega)]; exact gn
      have ce2 : ∀ {k : V → Out}, cellAt h2 n 2 k = k (.str e) := fun {k} => by rw [cellAt_eq, gn2]; rfl
      by_cases b : iriB s = true
      · simp (maxSteps := 2000000) (disch := first | omega | assumption) only [↓mCode, ↓mOps, mAll, seval, vPtr, ite_ne, wrap_i64, boundN_int, fn24, Tryz.f24, tv, List.map_nil, ce2, b]
        exact K _ _ _ ⟨by rw [mk, b, Bool.true_and], G3⟩
      · have b' : iriB s = false := by simpa using b
        simp (maxSteps := 2000000) (disch := first | omega | assumption) only [↓mCode, ↓mOps, mAll, seval, vPtr, ite_ne, wrap_i64, boundN_int, fn24, Tryz.f24, tv, List.map_nil, ce2, b']
        exact K _ _ _ ⟨by rw [mk, b', Bool.false_and], G3⟩
  · have q1 : (k = 1) = False := eq_false (by omega)
    have q2 : (k = 2) = True := eq_true (by omega)
    have mk : mayT (k, s, e) = (word64 s && decide (e = [])) := by
      show (if k = 1 then _ else if k = 2 then _ else if k = 3 then _ else if k = 4 then _ else if k = 5 then _ else _) = _
      rw [if_neg (by omega), if_pos z]
    by_cases l1 : s.length ≤ 4000
    · have l1' : ((s.length : Int) ≤ 4000) = True := eq_true (by omega)
      simp (maxSteps := 2000000) (disch := first | omega | assumption) only [↓mCode, ↓mOps, mAll, seval, vPtr, ite_ne, wrap_i64, boundN_int, fn24, Tryz.f24, tv, List.map_nil, l1']
      refine (valid01_ok hb (by omega)).call e0_hook e0_subs ?_
      rintro _ h1 n1 ⟨rfl, G⟩
      have G1 := GB.trans G
      have gn : h1.get n = some (.cells (ofT [V.int .i64 k, V.str s, V.str e]) 3 3) := by rw [G.2 n (by omega)]; exact bn
      have nn1 : n < n1 := by have := G.1; omega
      have c0 : ∀ {k' : V → Out}, cellAt h1 n 0 k' = k' (.int .i64 k) := fun {k'} => by rw [cellAt_eq, gn]; rfl
      have c1 : ∀ {k' : V → Out}, cellAt h1 n 1 k' = k' (.str s) := fun {k'} => by rw [cellAt_eq, gn]; rfl
      have c2 : ∀ {k' : V → Out}, cellAt h1 n 2 k' = k' (.str e) := fun {k'} => by rw [cellAt_eq, gn]; rfl
      have vb : valB s = decide (endR s = s.length) := by unfold valB; rw [decide_eq_true l1, Bool.true_and]
      generalize decide (endR s = s.length) = vv at *
      simp (maxSteps := 2000000) (disch := first | omega | assumption) only [↓mCode, ↓mOps, mAll, seval, vPtr, ite_ne, wrap_i64, boundN_int, fn24, Tryz.f24, tv, List.map_nil, l1', c0, c1, c2, q1, q2]
      refine (wordG02_ok (by omega)).call e0_hook e0_subs ?_
      rintro _ h2 n2 ⟨rfl, G2⟩
      have G3 := G1.trans G2
      have gn2 : h2.get n = some (.cells (ofT [V.int .i64 k, V.str s, V.str e]) 3 3) := by rw [G2.2 n (by omega)]; exact gn
      have ce2 : ∀ {k : V → Out}, cellAt h2 n 2 k = k (.str e) := fun {k} => by rw [cellAt_eq, gn2]; rfl
      by_cases b : wordB s 64 = true
      · simp (maxSteps := 2000000) (disch := first | omega | assumption) only [↓mCode, ↓mOps, mAll, seval, vPtr, ite_ne, wrap_i64, boundN_int, fn24, Tryz.f24, tv, List.map_nil, ce2, b]
        exact K _ _ _ ⟨by rw [mk, show word64 s = wordB s 64 from rfl, b, Bool.true_and], G3⟩
      · have b' : wordB s 64 = false := by simpa using b
        simp (maxSteps := 2000000) (disch := first | omega | assumption) only [↓mCode, ↓mOps, mAll, seval, vPtr, ite_ne, wrap_i64, boundN_int, fn24, Tryz.f24, tv, List.map_nil, ce2, b']
        exact K _ _ _ ⟨by rw [mk, show word64 s = wordB s 64 from rfl, b', Bool.false_and], G3⟩
    · have l1' : ((s.length : Int) ≤ 4000) = False := eq_false (by omega)
      have vb : valB s = false := by unfold valB; rw [decide_eq_false l1, Bool.false_and]
      have gn := bn
      simp (maxSteps := 2000000) (disch := first | omega | assumption) only [↓mCode, ↓mOps, mAll, seval, vPtr, ite_ne, wrap_i64, boundN_int, fn24, Tryz.f24, tv, List.map_nil, l1', q1, q2]
      refine (wordG02_ok (by omega)).call e0_hook e0_subs ?_
      rintro _ h2 n2 ⟨rfl, G2⟩
      have G3 := GB.trans G2
      have gn2 : h2.get n = some (.cells (ofT [V.int .i64 k, V.str s, V.str e]) 3 3) := by rw [G2.2 n (by omega)]; exact gn
      have ce2 : ∀ {k : V → Out}, cellAt h2 n 2 k = k (.str e) := fun {k} => by rw [cellAt_eq, gn2]; rfl
      by_cases b : wordB s 64 = true
      · simp (maxSteps := 2000000) (disch := first | omega | assumption) only [↓mCode, ↓mOps, mAll, seval, vPtr, ite_ne, wrap_i64, boundN_int, fn24, Tryz.f24, tv, List.map_nil, ce2, b]
        exact K _ _ _ ⟨by rw [mk, show word64 s = wordB s 64 from rfl, b, Bool.true_and], G3⟩
      · have b' : wordB s 64 = false := by simpa using b
        simp (maxSteps := 2000000) (disch := first | omega | assumption) only [↓mCode, ↓mOps, mAll, seval, vPtr, ite_ne, wrap_i64, boundN_int, fn24, Tryz.f24, tv, List.map_nil, ce2, b']
        exact K _ _ _ ⟨by rw [mk, show word64 s = wordB s 64 from rfl, b', Bool.false_and], G3⟩
  · have q1 : (k = 1) = False := eq_false (by omega)
    have q2 : (k = 2) = False := eq_false (by omega)
    have q3 : (k = 3) = True := eq_true (by omega)
    have mk : mayT (k, s, e) = (valB s && decide (e = [])) := by
      show (if k = 1 then _ else if k = 2 then _ else if k = 3 then _ else if k = 4 then _ else if k = 5 then _ else _) = _
      rw [if_neg (by omega), if_neg (by omega), if_pos z]
    by_cases l1 : s.length ≤ 4000
    · have l1' : ((s.length : Int) ≤ 4000) = True := eq_true (by omega)
      simp (maxSteps := 2000000) (disch := first | omega | assumption) only [↓mCode, ↓mOps, mAll, seval, vPtr, ite_ne, wrap_i64, boundN_int, fn24, Tryz.f24, tv, List.map_nil, l1']
      refine (valid01_ok hb (by omega)).call e0_hook e0_subs ?_
      rintro _ h1 n1 ⟨rfl, G⟩
      have G1 := GB.trans G
      have gn : h1.get n = some (.cells (ofT [V.int .i64 k, V.str s, V.str e]) 3 3) := by rw [G.2 n (by omega)]; exact bn
      have nn1 : n < n1 := by have := G.1; omega
      have c0 : ∀ {k' : V → Out}, cellAt h1 n 0 k' = k' (.int .i64 k) := fun {k'} => by rw [cellAt_eq, gn]; rfl
      have c1 : ∀ {k' : V → Out}, cellAt h1 n 1 k' = k' (.str s) := fun {k'} => by rw [cellAt_eq, gn]; rfl
      have c2 : ∀ {k' : V → Out}, cellAt h1 n 2 k' = k' (.str e) := fun {k'} => by rw [cellAt_eq, gn]; rfl
      have vb : valB s = decide (endR s = s.length) := by unfold valB; rw [decide_eq_true l1, Bool.true_and]
      generalize decide (endR s = s.length) = vv at *
      cases vv with
      | true =>
        simp (maxSteps := 2000000) (disch := first | omega | assumption) only [↓mCode, ↓mOps, mAll, seval, vPtr, ite_ne, wrap_i64, boundN_int, fn24, Tryz.f24, tv, List.map_nil, l1', c0, c1, c2, q1, q2, q3]
        exact K _ _ _ ⟨by rw [mk, vb, Bool.true_and], G1⟩
      | false =>
        simp (maxSteps := 2000000) (disch := first | omega | assumption) only [↓mCode, ↓mOps, mAll, seval, vPtr, ite_ne, wrap_i64, boundN_int, fn24, Tryz.f24, tv, List.map_nil, l1', c0, c1, c2, q1, q2, q3]
        exact K _ _ _ ⟨by rw [mk, vb, Bool.false_and], G1⟩
    · have l1' : ((s.length : Int) ≤ 4000) = False := eq_false (by omega)
      have vb : valB s = false := by unfold valB; rw [decide_eq_false l1, Bool.false_and]
      have gn := bn
      simp (maxSteps := 2000000) (disch := first | omega | assumption) only [↓mCode, ↓mOps, mAll, seval, vPtr, ite_ne, wrap_i64, boundN_int, fn24, Tryz.f24, tv, List.map_nil, l1', q1, q2, q3]
      exact K _ _ _ ⟨by rw [mk, vb, Bool.false_and], GB⟩
  · have q1 : (k = 1) = False := eq_false (by omega)
    have q2 : (k = 2) = False := eq_false (by omega)
    have q3 : (k = 3) = False := eq_false (by omega)
    have q4 : (k = 4) = True := eq_true (by omega)
    have mk : mayT (k, s, e) = (valB s && tagB e) := by
      show (if k = 1 then _ else if k = 2 then _ else if k = 3 then _ else if k = 4 then _ else if k = 5 then _ else _) = _
      rw [if_neg (by omega), if_neg (by omega), if_neg (by omega), if_pos z]
    by_cases l1 : s.length ≤ 4000
    · have l1' : ((s.length : Int) ≤ 4000) = True := eq_true (by omega)
      simp (maxSteps := 2000000) (disch := first | omega | assumption) only [↓mCode, ↓mOps, mAll, seval, vPtr, ite_ne, wrap_i64, boundN_int, fn24, Tryz.f24, tv, List.map_nil, l1']
      refine (valid01_ok hb (by omega)).call e0_hook e0_subs ?_
      rintro _ h1 n1 ⟨rfl, G⟩
      have G1 := GB.trans G
      have gn : h1.get n = some (.cells (ofT [V.int .i64 k, V.str s, V.str e]) 3 3) := by rw [G.2 n (by omega)]; exact bn
      have nn1 : n < n1 := by have := G.1; omega
      have c0 : ∀ {k' : V → Out}, cellAt h1 n 0 k' = k' (.int .i64 k) := fun {k'} => by rw [cellAt_eq, gn]; rfl
      have c1 : ∀ {k' : V → Out}, cellAt h1 n 1 k' = k' (.str s) := fun {k'} => by rw [cellAt_eq, gn]; rfl
      have c2 : ∀ {k' : V → Out}, cellAt h1 n 2 k' = k' (.str e) := fun {k'} => by rw [cellAt_eq, gn]; rfl
      have vb : valB s = decide (endR s = s.length) := by unfold valB; rw [decide_eq_true l1, Bool.true_and]
      generalize decide (endR s = s.length) = vv at *
      cases vv with
      | false =>
        simp (maxSteps := 2000000) (disch := first | omega | assumption) only [↓mCode, ↓mOps, mAll, seval, vPtr, ite_ne, wrap_i64, boundN_int, fn24, Tryz.f24, tv, List.map_nil, l1', c0, c1, c2, q1, q2, q3, q4]
        exact K _ _ _ ⟨by rw [mk, vb, Bool.false_and], G1⟩
      | true =>
        simp (maxSteps := 2000000) (disch := first | omega | assumption) only [↓mCode, ↓mOps, mAll, seval, vPtr, ite_ne, wrap_i64, boundN_int, fn24, Tryz.f24, tv, List.map_nil, l1', c0, c1, c2, q1, q2, q3, q4]
        refine (tag02_ok (by omega)).call e0_hook e0_subs ?_
        rintro _ _ _ ⟨rfl, rfl, rfl⟩
        simp (maxSteps := 2000000) (disch := first | omega | assumption) only [↓mCode, ↓mOps, mAll, seval, vPtr, ite_ne, wrap_i64, boundN_int, fn24, Tryz.f24, tv, List.map_nil, l1', c0, c1, c2, q1, q2, q3, q4]
        exact K _ _ _ ⟨by rw [mk, vb, Bool.true_and], G1⟩
    · have l1' : ((s.length : Int) ≤ 4000) = False := eq_false (by omega)
      have vb : valB s = false := by unfold valB; rw [decide_eq_false l1, Bool.false_and]
      have gn := bn
      simp (maxSteps := 2000000) (disch := first | omega | assumption) only [↓mCode, ↓mOps, mAll, seval, vPtr, ite_ne, wrap_i64, boundN_int, fn24, Tryz.f24, tv, List.map_nil, l1', q1, q2, q3, q4]
      exact K _ _ _ ⟨by rw [mk, vb, Bool.false_and], GB⟩
  · have q1 : (k = 1) = False := eq_false (by omega)
    have q2 : (k = 2) = False := eq_false (by omega)
    have q3 : (k = 3) = False := eq_false (by omega)
    have q4 : (k = 4) = False := eq_false (by omega)
    have q5 : (k = 5) = True := eq_true (by omega)
    have mk : mayT (k, s, e) = (valB s && (iriB e && decide (e ≠ xsdL))) := by
      show (if k = 1 then _ else if k = 2 then _ else if k = 3 then _ else if k = 4 then _ else if k = 5 then _ else _) = _
      rw [if_neg (by omega), if_neg (by omega), if_neg (by omega), if_neg (by omega), if_pos z]
    by_cases l1 : s.length ≤ 4000
    · have l1' : ((s.length : Int) ≤ 4000) = True := eq_true (by omega)
      simp (maxSteps := 2000000) (disch := first | omega | assumption) only [↓mCode, ↓mOps, mAll, seval, vPtr, ite_ne, wrap_i64, boundN_int, fn24, Tryz.f24, tv, List.map_nil, l1']
      refine (valid01_ok hb (by omega)).call e0_hook e0_subs ?_
      rintro _ h1 n1 ⟨rfl, G⟩
      have G1 := GB.trans G
      have gn : h1.get n = some (.cells (ofT [V.int .i64 k, V.str s, V.str e]) 3 3) := by rw [G.2 n (by omega)]; exact bn
      have nn1 : n < n1 := by have := G.1; omega
      have c0 : ∀ {k' : V → Out}, cellAt h1 n 0 k' = k' (.int .i64 k) := fun {k'} => by rw [cellAt_eq, gn]; rfl
      have c1 : ∀ {k' : V → Out}, cellAt h1 n 1 k' = k' (.str s) := fun {k'} => by rw [cellAt_eq, gn]; rfl
      have c2 : ∀ {k' : V → Out}, cellAt h1 n 2 k' = k' (.str e) := fun {k'} => by rw [cellAt_eq, gn]; rfl
      have vb : valB s = decide (endR s = s.length) := by unfold valB; rw [decide_eq_true l1, Bool.true_and]
      generalize decide (endR s = s.length) = vv at *
      cases vv with
      | false =>
        simp (maxSteps := 2000000) (disch := first | omega | assumption) only [↓mCode, ↓mOps, mAll, seval, vPtr, ite_ne, wrap_i64, boundN_int, fn24, Tryz.f24, tv, List.map_nil, l1', c0, c1, c2, q1, q2, q3, q4, q5]
        exact K _ _ _ ⟨by rw [mk, vb, Bool.false_and], G1⟩
      | true =>
        simp (maxSteps := 2000000) (disch := first | omega | assumption) only [↓mCode, ↓mOps, mAll, seval, vPtr, ite_ne, wrap_i64, boundN_int, fn24, Tryz.f24, tv, List.map_nil, l1', c0, c1, c2, q1, q2, q3, q4, q5]
        refine (iri02_ok hb2 (by omega)).call e0_hook e0_subs ?_
        rintro _ h2 n2 ⟨rfl, G2⟩
        have G3 := G1.trans G2
        have gn2 : h2.get n = some (.cells (ofT [V.int .i64 k, V.str s, V.str e]) 3 3) := by rw [G2.2 n (by omega)]; exact gn
        have ce2 : ∀ {k : V → Out}, cellAt h2 n 2 k = k (.str e) := fun {k} => by rw [cellAt_eq, gn2]; rfl
        by_cases b : iriB e = true
        · simp (maxSteps := 2000000) (disch := first | omega | assumption) only [↓mCode, ↓mOps, mAll, seval, vPtr, ite_ne, wrap_i64, boundN_int, fn24, Tryz.f24, tv, List.map_nil, List.map_cons, ce2, b]
          exact K _ _ _ ⟨by rw [mk, vb, b, Bool.true_and, Bool.true_and]; rfl, G3⟩
        · have b' : iriB e = false := by simpa using b
          simp (maxSteps := 2000000) (disch := first | omega | assumption) only [↓mCode, ↓mOps, mAll, seval, vPtr, ite_ne, wrap_i64, boundN_int, fn24, Tryz.f24, tv, List.map_nil, ce2, b']
          exact K _ _ _ ⟨by rw [mk, vb, b', Bool.true_and, Bool.false_and], G3⟩
    · have l1' : ((s.length : Int) ≤ 4000) = False := eq_false (by omega)
      have vb : valB s = false := by unfold valB; rw [decide_eq_false l1, Bool.false_and]
      have gn := bn
      simp (maxSteps := 2000000) (disch := first | omega | assumption) only [↓mCode, ↓mOps, mAll, seval, vPtr, ite_ne, wrap_i64, boundN_int, fn24, Tryz.f24, tv, List.map_nil, l1', q1, q2, q3, q4, q5]
      exact K _ _ _ ⟨by rw [mk, vb, Bool.false_and], GB⟩
  · have q1 : (k = 1) = False := eq_false (by omega)
    have q2 : (k = 2) = False := eq_false (by omega)
    have q3 : (k = 3) = False := eq_false (by omega)
    have q4 : (k = 4) = False := eq_false (by omega)
    have q5 : (k = 5) = False := eq_false (by omega)
    have mk : mayT (k, s, e) = false := by
      show (if k = 1 then _ else if k = 2 then _ else if k = 3 then _ else if k = 4 then _ else if k = 5 then _ else _) = _
      rw [if_neg (by omega), if_neg (by omega), if_neg (by omega), if_neg (by omega), if_neg (by omega)]
    by_cases l1 : s.length ≤ 4000
    · have l1' : ((s.length : Int) ≤ 4000) = True := eq_true (by omega)
      simp (maxSteps := 2000000) (disch := first | omega | assumption) only [↓mCode, ↓mOps, mAll, seval, vPtr, ite_ne, wrap_i64, boundN_int, fn24, Tryz.f24, tv, List.map_nil, l1']
      refine (valid01_ok hb (by omega)).call e0_hook e0_subs ?_
      rintro _ h1 n1 ⟨rfl, G⟩
      have G1 := GB.trans G
      have gn : h1.get n = some (.cells (ofT [V.int .i64 k, V.str s, V.str e]) 3 3) := by rw [G.2 n (by omega)]; exact bn
      have nn1 : n < n1 := by have := G.1; omega
      have c0 : ∀ {k' : V → Out}, cellAt h1 n 0 k' = k' (.int .i64 k) := fun {k'} => by rw [cellAt_eq, gn]; rfl
      have c1 : ∀ {k' : V → Out}, cellAt h1 n 1 k' = k' (.str s) := fun {k'} => by rw [cellAt_eq, gn]; rfl
      have c2 : ∀ {k' : V → Out}, cellAt h1 n 2 k' = k' (.str e) := fun {k'} => by rw [cellAt_eq, gn]; rfl
      have vb : valB s = decide (endR s = s.length) := by unfold valB; rw [decide_eq_true l1, Bool.true_and]
      generalize decide (endR s = s.length) = vv at *
      simp (maxSteps := 2000000) (disch := first | omega | assumption) only [↓mCode, ↓mOps, mAll, seval, vPtr, ite_ne, wrap_i64, boundN_int, fn24, Tryz.f24, tv, List.map_nil, l1', c0, c1, c2, q1, q2, q3, q4, q5]
      exact K _ _ _ ⟨by rw [mk], G1⟩
    · have l1' : ((s.length : Int) ≤ 4000) = False := eq_false (by omega)
      have vb : valB s = false := by unfold valB; rw [decide_eq_false l1, Bool.false_and]
      have gn := bn
      simp (maxSteps := 2000000) (disch := first | omega | assumption) only [↓mCode, ↓mOps, mAll, seval, vPtr, ite_ne, wrap_i64, boundN_int, fn24, Tryz.f24, tv, List.map_nil, l1', q1, q2, q3, q4, q5]
      exact K _ _ _ ⟨by rw [mk], GB⟩
end Go.Mir
