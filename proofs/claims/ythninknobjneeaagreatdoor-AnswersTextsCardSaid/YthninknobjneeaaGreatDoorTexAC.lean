/- Walks: slots, patterns and parts that may be. -/
import Derived.Test.YthninknobjneeaaGreatDoorTexAA
set_option linter.unusedSimpArgs false
set_option linter.unusedVariables false
set_option linter.defProp false
namespace Go.Mir
open Go Go.Proofs
set_option maxRecDepth 4000
set_option maxHeartbeats 16000000

/- slots, patterns, parts, and their cells -/
abbrev SlotT := List Nat × Tm
abbrev PatT := SlotT × SlotT × SlotT
abbrev LitT := Int × PatT × SlotT × SlotT
def slotC (s : SlotT) : List V := [.str s.1, .int .i64 s.2.1, .str s.2.2.1, .str s.2.2.2]
def patC (p : PatT) : List V := slotC p.1 ++ slotC p.2.1 ++ slotC p.2.2
def litC (x : LitT) : List V := .int .i64 x.1 :: (patC x.2.1 ++ slotC x.2.2.1 ++ slotC x.2.2.2)
def zT : Tm := (0, [], [])
def zS : SlotT := ([], zT)
def zP : PatT := (zS, zS, zS)
def zL : List V := [.str [], .int .i64 0, .str [], .str [], .str [], .int .i64 0, .str [], .str [], .str [], .int .i64 0, .str [], .str []]
theorem slotC_len {s : SlotT} : (slotC s).length = 4 := rfl
theorem patC_len {p : PatT} : (patC p).length = 12 := rfl
theorem litC_len {x : LitT} : (litC x).length = 21 := rfl
theorem litC_0 {x : LitT} : (litC x)[0]? = some (.int .i64 x.1) := rfl
section
variable {s : SlotT} {p : PatT} {x : LitT} {k : List V → Out}
theorem load_t3 {a b c d : V} : loadN (ofT [a, b, c, d]) 1 3 k = k [b, c, d] := (loadN_ofT (by simp)).trans rfl
theorem buildIn_array {tys : T TI} {regs : T V} {m e sz : Nat} {z : List V} {ps : List (Nat × Operand)} {k : V → Out} : buildIn tys regs (.array m e) sz z ps k = om (tys.get e) fun te => fillK regs (plA te.size) sz ps z fun l => k (.agg l) := rfl
theorem load_pat0 : loadN (ofT (patC p)) 0 4 k = k (slotC p.1) := (loadN_ofT (by rw [patC_len]; omega)).trans rfl
theorem load_pat1 : loadN (ofT (patC p)) 4 4 k = k (slotC p.2.1) := (loadN_ofT (by rw [patC_len]; omega)).trans rfl
theorem load_pat2 : loadN (ofT (patC p)) 8 4 k = k (slotC p.2.2) := (loadN_ofT (by rw [patC_len]; omega)).trans rfl
theorem load_litP : loadN (ofT (litC x)) 1 12 k = k (patC x.2.1) := (loadN_ofT (by rw [litC_len]; omega)).trans rfl
theorem load_litA : loadN (ofT (litC x)) 13 4 k = k (slotC x.2.2.1) := (loadN_ofT (by rw [litC_len]; omega)).trans rfl
theorem load_litB : loadN (ofT (litC x)) 17 4 k = k (slotC x.2.2.2) := (loadN_ofT (by rw [litC_len]; omega)).trans rfl
theorem load_lit : loadN (ofT (litC x)) 0 21 k = k (litC x) := (loadN_ofT (by rw [litC_len]; omega)).trans rfl
end
/-- the rules of these cells, in one -/
def mLit := And.intro @slotC_len <| And.intro @patC_len <| And.intro @litC_len <| And.intro @litC_0 <| And.intro @load_pat0 <| And.intro @load_pat1 <| And.intro @load_pat2 <| And.intro @load_litP <| And.intro @load_litA <| And.intro @load_litB <| @load_lit

section
variable {k : V → Out}
theorem eqT51 {d : Nat} {a a' : Int} {b b' c c' : List Nat} {kb : Bool → Out} : eqT tys (d + 2) { kind := .struct [(0, 45, 1, true), (1, 9, 1, true), (2, 9, 1, true)], size := 3, bytes := 40, zero := [.int .i64 0, .str [], .str []] } (.agg [.int .i64 a, .str b, .str c]) (.agg [.int .i64 a', .str b', .str c']) kb = kb (decide ((a, b, c) = (a', b', c'))) := by
  rw [eqT_struct, eqFs_cons, ty45, om_some, need_true, eqFs_cons, ty9, om_some, need_true, eqFs_cons, ty9, om_some, need_true, eqFs_nil]
  simp only [partV_eq, isAggK_int, isAggK_string, List.getElem?_cons_zero, List.getElem?_cons_succ, om_some, eqT_int, eqT_str, eqInt_eq, eqStr_eq]
  by_cases h1 : a = a' <;> by_cases h2 : b = b' <;> by_cases h3 : c = c' <;> simp [h1, h2, h3]
theorem eq51 {a a' : Int} {b b' c c' : List Nat} : binK tys .eql 47 (.agg [.int .i64 a, .str b, .str c]) (.agg [.int .i64 a', .str b', .str c']) k = k (.bool (decide ((a, b, c) = (a', b', c')))) := by
  rw [binK_aggEq, ty47, om_some, isAggK_struct, need_true, eqT51]
theorem eqT64 {d : Nat} {s s' : SlotT} {kb : Bool → Out} : eqT tys (d + 3) { kind := .struct [(0, 9, 1, true), (1, 47, 3, true)], size := 4, bytes := 56, zero := [.str [], .int .i64 0, .str [], .str []] } (.agg (slotC s)) (.agg (slotC s')) kb = kb (decide (s = s')) := by
  obtain ⟨v, a, b, c⟩ := s
  obtain ⟨v', a', b', c'⟩ := s'
  rw [eqT_struct, eqFs_cons, ty9, om_some, need_true, eqFs_cons, ty47, om_some, need_true, eqFs_nil]
  unfold slotC
  simp only [partV_eq, isAggK_struct, isAggK_string, List.getElem?_cons_zero, om_some, eqT_str, eqStr_eq, List.drop_succ_cons, List.drop_zero, List.take_succ_cons, List.take_zero, eqT51]
  by_cases h1 : v = v' <;> by_cases h2 : (a, b, c) = (a', b', c') <;> simp [h1, h2]
theorem eq64z {s : SlotT} : binK tys .eql 49 (.agg (slotC s)) (.agg [.str [], .int .i64 0, .str [], .str []]) k = k (.bool (decide (s = zS))) := by
  rw [binK_aggEq, ty49, om_some, isAggK_struct, need_true]
  exact eqT64 (s' := zS)
theorem eq66z {p : PatT} : binK tys .eql 51 (.agg (patC p)) (.agg [.str [], .int .i64 0, .str [], .str [], .str [], .int .i64 0, .str [], .str [], .str [], .int .i64 0, .str [], .str []]) k = k (.bool (decide (p = zP))) := by
  obtain ⟨s0, s1, s2⟩ := p
  rw [binK_aggEq, ty51, om_some, isAggK_array, need_true, eqT_array, ty49, om_some, eqAi_s, eqAi_s, eqAi_s, eqAi_0]
  have g0 : ∀ {kk : V → Out}, partV { kind := .struct [(0, 9, 1, true), (1, 47, 3, true)], size := 4, bytes := 56, zero := [.str [], .int .i64 0, .str [], .str []] } (patC (s0, s1, s2)) (0 * 4) kk = kk (.agg (slotC s0)) := fun {kk} => by rw [partV_eq, isAggK_struct]; rfl
  have g1 : ∀ {kk : V → Out}, partV { kind := .struct [(0, 9, 1, true), (1, 47, 3, true)], size := 4, bytes := 56, zero := [.str [], .int .i64 0, .str [], .str []] } (patC (s0, s1, s2)) ((0 + 1) * 4) kk = kk (.agg (slotC s1)) := fun {kk} => by rw [partV_eq, isAggK_struct]; rfl
  have g2 : ∀ {kk : V → Out}, partV { kind := .struct [(0, 9, 1, true), (1, 47, 3, true)], size := 4, bytes := 56, zero := [.str [], .int .i64 0, .str [], .str []] } (patC (s0, s1, s2)) ((0 + 1 + 1) * 4) kk = kk (.agg (slotC s2)) := fun {kk} => by rw [partV_eq, isAggK_struct]; rfl
  have z0 : ∀ {i : Nat} {kk : V → Out}, i = 0 ∨ i = 1 ∨ i = 2 → partV { kind := .struct [(0, 9, 1, true), (1, 47, 3, true)], size := 4, bytes := 56, zero := [.str [], .int .i64 0, .str [], .str []] } [.str [], .int .i64 0, .str [], .str [], .str [], .int .i64 0, .str [], .str [], .str [], .int .i64 0, .str [], .str []] (i * 4) kk = kk (.agg (slotC zS)) := fun {i kk} hi => by
    rw [partV_eq, isAggK_struct]
    rcases hi with rfl | rfl | rfl <;> rfl
  rw [g0, z0 (.inl rfl), eqT64, g1, z0 (.inr (.inl rfl)), eqT64, g2, z0 (.inr (.inr rfl)), eqT64]
  by_cases h1 : s0 = zS <;> by_cases h2 : s1 = zS <;> by_cases h3 : s2 = zS <;> simp [h1, h2, h3, zP]
end

/-- may a slot be? a pattern? a part? -/
noncomputable def mayS (s : SlotT) : Bool := if s.1 = [] then mayT s.2 else wordB s.1 32 && decide (s.2 = zT)
noncomputable def mayP (p : PatT) : Bool := mayS p.1 && (mayS p.2.1 && mayS p.2.2)
noncomputable def mayL (x : LitT) : Bool := if x.1 = 1 ∨ x.1 = 2 then mayP x.2.1 && (decide (x.2.2.1 = zS) && decide (x.2.2.2 = zS)) else if x.1 = 3 ∨ x.1 = 4 then decide (x.2.1 = zP) && (mayS x.2.2.1 && mayS x.2.2.2) else false
def GdS (s : SlotT) : Prop := s.1.length ≤ 160000 ∧ GdT s.2
def GdP (p : PatT) : Prop := GdS p.1 ∧ GdS p.2.1 ∧ GdS p.2.2
def GdL (x : LitT) : Prop := GdP x.2.1 ∧ GdS x.2.2.1 ∧ GdS x.2.2.2

theorem nameG_ok {s : List Nat} {h : T O} {n : Nat} (hl : s.length ≤ 9223372036854775806) : Fn env0 204 [.str s] h n (fun v h' n' => v = .bool (wordB s 32) ∧ Gro h n h' n') :=
  (name_ok hl).mono fun _ _ _ ⟨a, b, c⟩ => ⟨a, by rw [b, c]; exact Gro.refl _ _⟩
theorem wordH02_ok {s : List Nat} {h : T O} {n : Nat} (hl : s.length ≤ 9223372036854775806) : Fn env0 45 [.str s, .int .i64 32] h n (fun v h' n' => v = .bool (wordB s 32) ∧ Gro h n h' n') :=
  (word02_ok (m := 32) hl).mono fun _ _ _ ⟨a, b, c⟩ => ⟨a, by rw [b, c]; exact Gro.refl _ _⟩

theorem slot02_ok {s : SlotT} {h : T O} {n : Nat} (g : GdS s) : Fn env0 79 [.agg (slotC s)] h n (fun v h' n' => v = .bool (mayS s) ∧ Gro h n h' n') := by
  obtain ⟨w, k, s, e⟩ := s
  have hw : w.length ≤ 160000 := g.1
  have gt : GdT (k, s, e) := g.2
  refine Fn.mk fn79 rfl fz79 (by simp) fun Q cs K => ?_
  have GB : Gro h n (h.put n (some (.cells (ofT [V.str w, V.int .i64 k, V.str s, V.str e]) 4 4))) (n + 1) := (Gro.refl h n).put _
  by_cases z : w = []
  · have mk : mayS (w, k, s, e) = mayT (k, s, e) := by show (if w = [] then _ else _) = _; rw [if_pos z]
    have z' : (w = []) = True := eq_true z
    simp (maxSteps := 2000000) (disch := first | omega | assumption) only [↓mCode, ↓mOps, mAll, seval, vPtr, ite_ne, wrap_i64, boundN_int, fn79, Tryz.f79, List.map_nil, decide_true, decide_false, Bool.not_true, Bool.not_false, List.nil_append, slotC, z']
    refine (may02_ok (x := (k, s, e)) gt.1 (Nat.le_trans gt.2.1 (by omega)) gt.2.2.1 (Nat.le_trans gt.2.2.2 (by omega))).call e0_hook e0_subs ?_
    rintro _ h1 n1 ⟨rfl, G⟩
    simp (maxSteps := 2000000) (disch := first | omega | assumption) only [↓mCode, ↓mOps, mAll, seval, vPtr, ite_ne, wrap_i64, boundN_int, fn79, Tryz.f79, List.map_nil, decide_true, decide_false, Bool.not_true, Bool.not_false, List.nil_append]
    exact K _ _ _ ⟨by rw [mk], GB.trans G⟩
  · have mk : mayS (w, k, s, e) = (wordB w 32 && decide ((k, s, e) = zT)) := by show (if w = [] then _ else _) = _; rw [if_neg z]
    have z' : (w = []) = False := eq_false z
    by_cases y : (k, s, e) = zT
    · have y' : ((k, s, e) = ((0 : Int), ([] : List Nat), ([] : List Nat))) = True := eq_true y
      simp (maxSteps := 2000000) (disch := first | omega | assumption) only [↓mCode, ↓mOps, mAll, seval, vPtr, ite_ne, wrap_i64, boundN_int, fn79, Tryz.f79, List.map_nil, decide_true, decide_false, Bool.not_true, Bool.not_false, List.nil_append, slotC, z', eq51, y']
      refine (wordH02_ok (by omega)).call e0_hook e0_subs ?_
      rintro _ h1 n1 ⟨rfl, G⟩
      simp (maxSteps := 2000000) (disch := first | omega | assumption) only [↓mCode, ↓mOps, mAll, seval, vPtr, ite_ne, wrap_i64, boundN_int, fn79, Tryz.f79, List.map_nil, decide_true, decide_false, Bool.not_true, Bool.not_false, List.nil_append]
      exact K _ _ _ ⟨by rw [mk, decide_eq_true y, Bool.and_true], GB.trans G⟩
    · have y' : ((k, s, e) = ((0 : Int), ([] : List Nat), ([] : List Nat))) = False := eq_false y
      simp (maxSteps := 2000000) (disch := first | omega | assumption) only [↓mCode, ↓mOps, mAll, seval, vPtr, ite_ne, wrap_i64, boundN_int, fn79, Tryz.f79, List.map_nil, decide_true, decide_false, Bool.not_true, Bool.not_false, List.nil_append, slotC, z', eq51, y']
      exact K _ _ _ ⟨by rw [mk, decide_eq_false y, Bool.and_false], GB⟩

theorem slot_ok {s : SlotT} {h : T O} {n : Nat} (g : GdS s) : Fn env0 145 [.agg (slotC s)] h n (fun v h' n' => v = .bool (mayS s) ∧ Gro h n h' n') := by
  obtain ⟨w, k, s, e⟩ := s
  have hw : w.length ≤ 160000 := g.1
  have gt : GdT (k, s, e) := g.2
  refine Fn.mk fn145 rfl fz145 (by simp) fun Q cs K => ?_
  have GB : Gro h n (h.put n (some (.cells (ofT [V.str w, V.int .i64 k, V.str s, V.str e]) 4 4))) (n + 1) := (Gro.refl h n).put _
  by_cases z : w = []
  · have mk : mayS (w, k, s, e) = mayT (k, s, e) := by show (if w = [] then _ else _) = _; rw [if_pos z]
    have z' : (w ≠ []) = False := eq_false fun q => q z
    simp (maxSteps := 2000000) (disch := first | omega | assumption) only [↓mCode, ↓mOps, mAll, seval, vPtr, ite_ne, wrap_i64, boundN_int, fn145, Tryz.f145, List.map_nil, decide_true, decide_false, Bool.not_true, Bool.not_false, List.nil_append, slotC, z']
    refine (mayP_ok (x := (k, s, e)) gt.1 (Nat.le_trans gt.2.1 (by omega)) gt.2.2.1 (Nat.le_trans gt.2.2.2 (by omega))).call e0_hook e0_subs ?_
    rintro _ h1 n1 ⟨rfl, G⟩
    simp (maxSteps := 2000000) (disch := first | omega | assumption) only [↓mCode, ↓mOps, mAll, seval, vPtr, ite_ne, wrap_i64, boundN_int, fn145, Tryz.f145, List.map_nil, decide_true, decide_false, Bool.not_true, Bool.not_false, List.nil_append]
    exact K _ _ _ ⟨by rw [mk], GB.trans G⟩
  · have mk : mayS (w, k, s, e) = (wordB w 32 && decide ((k, s, e) = zT)) := by show (if w = [] then _ else _) = _; rw [if_neg z]
    have z' : (w ≠ []) = True := eq_true z
    simp (maxSteps := 2000000) (disch := first | omega | assumption) only [↓mCode, ↓mOps, mAll, seval, vPtr, ite_ne, wrap_i64, boundN_int, fn145, Tryz.f145, List.map_nil, decide_true, decide_false, Bool.not_true, Bool.not_false, List.nil_append, slotC, z']
    refine (nameG_ok (by omega)).call e0_hook e0_subs ?_
    rintro _ h1 n1 ⟨rfl, G⟩
    have gn : h1.get n = some (.cells (ofT [V.str w, V.int .i64 k, V.str s, V.str e]) 4 4) := by rw [G.2 n (by omega), T.get_put, if_pos rfl]
    have cA : ∀ {k' : List V → Out}, cellsAt h1 n 1 3 k' = k' [.int .i64 k, .str s, .str e] := fun {k'} => by rw [cellsAt_eq, gn]; exact load_t3
    cases b : wordB w 32 with
    | true =>
      simp (maxSteps := 2000000) (disch := first | omega | assumption) only [↓mCode, ↓mOps, mAll, seval, vPtr, ite_ne, wrap_i64, boundN_int, fn145, Tryz.f145, List.map_nil, decide_true, decide_false, Bool.not_true, Bool.not_false, List.nil_append, b, cA, eq51]
      exact K _ _ _ ⟨by rw [mk, b]; rfl, GB.trans G⟩
    | false =>
      simp (maxSteps := 2000000) (disch := first | omega | assumption) only [↓mCode, ↓mOps, mAll, seval, vPtr, ite_ne, wrap_i64, boundN_int, fn145, Tryz.f145, List.map_nil, decide_true, decide_false, Bool.not_true, Bool.not_false, List.nil_append, b, cA, eq51]
      exact K _ _ _ ⟨by rw [mk, b]; rfl, GB.trans G⟩

theorem pat02_ok {p : PatT} {h : T O} {n : Nat} (g : GdP p) : Fn env0 78 [.agg (patC p)] h n (fun v h' n' => v = .bool (mayP p) ∧ Gro h n h' n') := by
  refine Fn.mk fn78 rfl fz78 (by simp) fun Q cs K => ?_
  have GB : Gro h n (h.put n (some (.cells (ofT (patC p)) 12 12))) (n + 1) := (Gro.refl h n).put _
  simp (maxSteps := 2000000) (disch := first | omega | assumption) only [↓mCode, ↓mOps, mAll, seval, vPtr, ite_ne, wrap_i64, boundN_int, fn78, Tryz.f78, mLit, decide_true, decide_false, Bool.not_true, Bool.not_false]
  refine (slot02_ok g.1).call e0_hook e0_subs ?_
  rintro _ h1 n1 ⟨rfl, G⟩
  have gn : h1.get n = some (.cells (ofT (patC p)) 12 12) := by rw [G.2 n (by omega), T.get_put, if_pos rfl]
  have c1 : ∀ {k' : List V → Out}, cellsAt h1 n 4 4 k' = k' (slotC p.2.1) := fun {k'} => by rw [cellsAt_eq, gn]; exact load_pat1
  cases b : mayS p.1 with
  | false =>
    simp (maxSteps := 2000000) (disch := first | omega | assumption) only [↓mCode, ↓mOps, mAll, seval, vPtr, ite_ne, wrap_i64, boundN_int, fn78, Tryz.f78, mLit, decide_true, decide_false, Bool.not_true, Bool.not_false, b]
    exact K _ _ _ ⟨by unfold mayP; rw [b, Bool.false_and], GB.trans G⟩
  | true =>
    simp (maxSteps := 2000000) (disch := first | omega | assumption) only [↓mCode, ↓mOps, mAll, seval, vPtr, ite_ne, wrap_i64, boundN_int, fn78, Tryz.f78, mLit, decide_true, decide_false, Bool.not_true, Bool.not_false, b, c1]
    refine (slot02_ok g.2.1).call e0_hook e0_subs ?_
    rintro _ h2 n2 ⟨rfl, G2⟩
    have c2 : ∀ {k' : List V → Out}, cellsAt h2 n 8 4 k' = k' (slotC p.2.2) := fun {k'} => by rw [cellsAt_eq, G2.2 n (by have := G.1; omega), gn]; exact load_pat2
    cases b2 : mayS p.2.1 with
    | false =>
      simp (maxSteps := 2000000) (disch := first | omega | assumption) only [↓mCode, ↓mOps, mAll, seval, vPtr, ite_ne, wrap_i64, boundN_int, fn78, Tryz.f78, mLit, decide_true, decide_false, Bool.not_true, Bool.not_false, b2]
      exact K _ _ _ ⟨by unfold mayP; rw [b, b2, Bool.false_and, Bool.and_false], (GB.trans G).trans G2⟩
    | true =>
      simp (maxSteps := 2000000) (disch := first | omega | assumption) only [↓mCode, ↓mOps, mAll, seval, vPtr, ite_ne, wrap_i64, boundN_int, fn78, Tryz.f78, mLit, decide_true, decide_false, Bool.not_true, Bool.not_false, b2, c2]
      refine (slot02_ok g.2.2).call e0_hook e0_subs ?_
      rintro _ h3 n3 ⟨rfl, G3⟩
      simp (maxSteps := 2000000) (disch := first | omega | assumption) only [↓mCode, ↓mOps, mAll, seval, vPtr, ite_ne, wrap_i64, boundN_int, fn78, Tryz.f78, mLit, decide_true, decide_false, Bool.not_true, Bool.not_false]
      exact K _ _ _ ⟨by unfold mayP; rw [b, b2, Bool.true_and, Bool.true_and], ((GB.trans G).trans G2).trans G3⟩

theorem pat_ok {p : PatT} {h : T O} {n : Nat} (g : GdP p) : Fn env0 144 [.agg (patC p)] h n (fun v h' n' => v = .bool (mayP p) ∧ Gro h n h' n') := by
  refine Fn.mk fn144 rfl fz144 (by simp) fun Q cs K => ?_
  have GB : Gro h n (h.put n (some (.cells (ofT (patC p)) 12 12))) (n + 1) := (Gro.refl h n).put _
  simp (maxSteps := 2000000) (disch := first | omega | assumption) only [↓mCode, ↓mOps, mAll, seval, vPtr, ite_ne, wrap_i64, boundN_int, fn144, Tryz.f144, mLit, decide_true, decide_false, Bool.not_true, Bool.not_false]
  refine (slot_ok g.1).call e0_hook e0_subs ?_
  rintro _ h1 n1 ⟨rfl, G⟩
  have gn : h1.get n = some (.cells (ofT (patC p)) 12 12) := by rw [G.2 n (by omega), T.get_put, if_pos rfl]
  have c1 : ∀ {k' : List V → Out}, cellsAt h1 n 4 4 k' = k' (slotC p.2.1) := fun {k'} => by rw [cellsAt_eq, gn]; exact load_pat1
  cases b : mayS p.1 with
  | false =>
    simp (maxSteps := 2000000) (disch := first | omega | assumption) only [↓mCode, ↓mOps, mAll, seval, vPtr, ite_ne, wrap_i64, boundN_int, fn144, Tryz.f144, mLit, decide_true, decide_false, Bool.not_true, Bool.not_false, b]
    exact K _ _ _ ⟨by unfold mayP; rw [b, Bool.false_and], GB.trans G⟩
  | true =>
    simp (maxSteps := 2000000) (disch := first | omega | assumption) only [↓mCode, ↓mOps, mAll, seval, vPtr, ite_ne, wrap_i64, boundN_int, fn144, Tryz.f144, mLit, decide_true, decide_false, Bool.not_true, Bool.not_false, b, c1]
    refine (slot_ok g.2.1).call e0_hook e0_subs ?_
    rintro _ h2 n2 ⟨rfl, G2⟩
    have c2 : ∀ {k' : List V → Out}, cellsAt h2 n 8 4 k' = k' (slotC p.2.2) := fun {k'} => by rw [cellsAt_eq, G2.2 n (by have := G.1; omega), gn]; exact load_pat2
    cases b2 : mayS p.2.1 with
    | false =>
      simp (maxSteps := 2000000) (disch := first | omega | assumption) only [↓mCode, ↓mOps, mAll, seval, vPtr, ite_ne, wrap_i64, boundN_int, fn144, Tryz.f144, mLit, decide_true, decide_false, Bool.not_true, Bool.not_false, b2]
      exact K _ _ _ ⟨by unfold mayP; rw [b, b2, Bool.false_and, Bool.and_false], (GB.trans G).trans G2⟩
    | true =>
      simp (maxSteps := 2000000) (disch := first | omega | assumption) only [↓mCode, ↓mOps, mAll, seval, vPtr, ite_ne, wrap_i64, boundN_int, fn144, Tryz.f144, mLit, decide_true, decide_false, Bool.not_true, Bool.not_false, b2, c2]
      refine (slot_ok g.2.2).call e0_hook e0_subs ?_
      rintro _ h3 n3 ⟨rfl, G3⟩
      simp (maxSteps := 2000000) (disch := first | omega | assumption) only [↓mCode, ↓mOps, mAll, seval, vPtr, ite_ne, wrap_i64, boundN_int, fn144, Tryz.f144, mLit, decide_true, decide_false, Bool.not_true, Bool.not_false]
      exact K _ _ _ ⟨by unfold mayP; rw [b, b2, Bool.true_and, Bool.true_and], ((GB.trans G).trans G2).trans G3⟩

theorem part02_ok {x : LitT} {h : T O} {n : Nat} (g : GdL x) : Fn env0 36 [.agg (litC x)] h n (fun v h' n' => v = .bool (mayL x) ∧ Gro h n h' n') := by
  refine Fn.mk fn36 rfl fz36 (by simp) fun Q cs K => ?_
  have GB : Gro h n (h.put n (some (.cells (ofT (litC x)) 21 21))) (n + 1) := (Gro.refl h n).put _
  by_cases k1 : x.1 = 1
  · have q1 : (x.1 = 1) = True := eq_true k1
    have mk : mayL x = (mayP x.2.1 && (decide (x.2.2.1 = zS) && decide (x.2.2.2 = zS))) := by unfold mayL; rw [if_pos (by omega)]
    simp (maxSteps := 2000000) (disch := first | omega | assumption) only [↓mCode, ↓mOps, mAll, seval, vPtr, ite_ne, wrap_i64, boundN_int, fn36, Tryz.f36, mLit, buildIn_array, eq64z, eq66z, decide_true, decide_false, Bool.not_true, Bool.not_false, q1]
    refine (pat02_ok g.1).call e0_hook e0_subs ?_
    rintro _ h1 n1 ⟨rfl, G⟩
    have gn : h1.get n = some (.cells (ofT (litC x)) 21 21) := by rw [G.2 n (by omega), T.get_put, if_pos rfl]
    have cA : ∀ {k' : List V → Out}, cellsAt h1 n 13 4 k' = k' (slotC x.2.2.1) := fun {k'} => by rw [cellsAt_eq, gn]; exact load_litA
    have cB : ∀ {k' : List V → Out}, cellsAt h1 n 17 4 k' = k' (slotC x.2.2.2) := fun {k'} => by rw [cellsAt_eq, gn]; exact load_litB
    cases b : mayP x.2.1 with
    | false =>
      simp (maxSteps := 2000000) (disch := first | omega | assumption) only [↓mCode, ↓mOps, mAll, seval, vPtr, ite_ne, wrap_i64, boundN_int, fn36, Tryz.f36, mLit, buildIn_array, eq64z, eq66z, decide_true, decide_false, Bool.not_true, Bool.not_false, b]
      exact K _ _ _ ⟨by rw [mk, b, Bool.false_and], GB.trans G⟩
    | true =>
      by_cases y : x.2.2.1 = zS
      · have y' : (x.2.2.1 = zS) = True := eq_true y
        simp (maxSteps := 2000000) (disch := first | omega | assumption) only [↓mCode, ↓mOps, mAll, seval, vPtr, ite_ne, wrap_i64, boundN_int, fn36, Tryz.f36, mLit, buildIn_array, eq64z, eq66z, decide_true, decide_false, Bool.not_true, Bool.not_false, b, cA, cB, y']
        exact K _ _ _ ⟨by rw [mk, b, decide_eq_true y, Bool.true_and, Bool.true_and], GB.trans G⟩
      · have y' : (x.2.2.1 = zS) = False := eq_false y
        simp (maxSteps := 2000000) (disch := first | omega | assumption) only [↓mCode, ↓mOps, mAll, seval, vPtr, ite_ne, wrap_i64, boundN_int, fn36, Tryz.f36, mLit, buildIn_array, eq64z, eq66z, decide_true, decide_false, Bool.not_true, Bool.not_false, b, cA, cB, y']
        exact K _ _ _ ⟨by rw [mk, b, decide_eq_false y, Bool.true_and, Bool.false_and], GB.trans G⟩
  have q1 : (x.1 = 1) = False := eq_false k1
  by_cases k2 : x.1 = 2
  · have q2 : (x.1 = 2) = True := eq_true k2
    have mk : mayL x = (mayP x.2.1 && (decide (x.2.2.1 = zS) && decide (x.2.2.2 = zS))) := by unfold mayL; rw [if_pos (by omega)]
    simp (maxSteps := 2000000) (disch := first | omega | assumption) only [↓mCode, ↓mOps, mAll, seval, vPtr, ite_ne, wrap_i64, boundN_int, fn36, Tryz.f36, mLit, buildIn_array, eq64z, eq66z, decide_true, decide_false, Bool.not_true, Bool.not_false, q1, q2]
    refine (pat02_ok g.1).call e0_hook e0_subs ?_
    rintro _ h1 n1 ⟨rfl, G⟩
    have gn : h1.get n = some (.cells (ofT (litC x)) 21 21) := by rw [G.2 n (by omega), T.get_put, if_pos rfl]
    have cA : ∀ {k' : List V → Out}, cellsAt h1 n 13 4 k' = k' (slotC x.2.2.1) := fun {k'} => by rw [cellsAt_eq, gn]; exact load_litA
    have cB : ∀ {k' : List V → Out}, cellsAt h1 n 17 4 k' = k' (slotC x.2.2.2) := fun {k'} => by rw [cellsAt_eq, gn]; exact load_litB
    cases b : mayP x.2.1 with
    | false =>
      simp (maxSteps := 2000000) (disch := first | omega | assumption) only [↓mCode, ↓mOps, mAll, seval, vPtr, ite_ne, wrap_i64, boundN_int, fn36, Tryz.f36, mLit, buildIn_array, eq64z, eq66z, decide_true, decide_false, Bool.not_true, Bool.not_false, b]
      exact K _ _ _ ⟨by rw [mk, b, Bool.false_and], GB.trans G⟩
    | true =>
      by_cases y : x.2.2.1 = zS
      · have y' : (x.2.2.1 = zS) = True := eq_true y
        simp (maxSteps := 2000000) (disch := first | omega | assumption) only [↓mCode, ↓mOps, mAll, seval, vPtr, ite_ne, wrap_i64, boundN_int, fn36, Tryz.f36, mLit, buildIn_array, eq64z, eq66z, decide_true, decide_false, Bool.not_true, Bool.not_false, b, cA, cB, y']
        exact K _ _ _ ⟨by rw [mk, b, decide_eq_true y, Bool.true_and, Bool.true_and], GB.trans G⟩
      · have y' : (x.2.2.1 = zS) = False := eq_false y
        simp (maxSteps := 2000000) (disch := first | omega | assumption) only [↓mCode, ↓mOps, mAll, seval, vPtr, ite_ne, wrap_i64, boundN_int, fn36, Tryz.f36, mLit, buildIn_array, eq64z, eq66z, decide_true, decide_false, Bool.not_true, Bool.not_false, b, cA, cB, y']
        exact K _ _ _ ⟨by rw [mk, b, decide_eq_false y, Bool.true_and, Bool.false_and], GB.trans G⟩
  have q2 : (x.1 = 2) = False := eq_false k2
  by_cases k3 : x.1 = 3
  · have q3 : (x.1 = 3) = True := eq_true k3
    have mk : mayL x = (decide (x.2.1 = zP) && (mayS x.2.2.1 && mayS x.2.2.2)) := by unfold mayL; rw [if_neg (by omega), if_pos (by omega)]
    by_cases y : x.2.1 = zP
    · have y' : (x.2.1 = zP) = True := eq_true y
      simp (maxSteps := 2000000) (disch := first | omega | assumption) only [↓mCode, ↓mOps, mAll, seval, vPtr, ite_ne, wrap_i64, boundN_int, fn36, Tryz.f36, mLit, buildIn_array, eq64z, eq66z, decide_true, decide_false, Bool.not_true, Bool.not_false, q1, q2, q3, y']
      refine (slot02_ok g.2.1).call e0_hook e0_subs ?_
      rintro _ h1 n1 ⟨rfl, G⟩
      have gn : h1.get n = some (.cells (ofT (litC x)) 21 21) := by rw [G.2 n (by omega), T.get_put, if_pos rfl]
      have cB : ∀ {k' : List V → Out}, cellsAt h1 n 17 4 k' = k' (slotC x.2.2.2) := fun {k'} => by rw [cellsAt_eq, gn]; exact load_litB
      cases b : mayS x.2.2.1 with
      | false =>
        simp (maxSteps := 2000000) (disch := first | omega | assumption) only [↓mCode, ↓mOps, mAll, seval, vPtr, ite_ne, wrap_i64, boundN_int, fn36, Tryz.f36, mLit, buildIn_array, eq64z, eq66z, decide_true, decide_false, Bool.not_true, Bool.not_false, b]
        exact K _ _ _ ⟨by rw [mk, b, Bool.false_and, Bool.and_false], GB.trans G⟩
      | true =>
        simp (maxSteps := 2000000) (disch := first | omega | assumption) only [↓mCode, ↓mOps, mAll, seval, vPtr, ite_ne, wrap_i64, boundN_int, fn36, Tryz.f36, mLit, buildIn_array, eq64z, eq66z, decide_true, decide_false, Bool.not_true, Bool.not_false, b, cB]
        refine (slot02_ok g.2.2).call e0_hook e0_subs ?_
        rintro _ h2 n2 ⟨rfl, G2⟩
        simp (maxSteps := 2000000) (disch := first | omega | assumption) only [↓mCode, ↓mOps, mAll, seval, vPtr, ite_ne, wrap_i64, boundN_int, fn36, Tryz.f36, mLit, buildIn_array, eq64z, eq66z, decide_true, decide_false, Bool.not_true, Bool.not_false]
        exact K _ _ _ ⟨by rw [mk, b, decide_eq_true y, Bool.true_and, Bool.true_and], (GB.trans G).trans G2⟩
    · have y' : (x.2.1 = zP) = False := eq_false y
      simp (maxSteps := 2000000) (disch := first | omega | assumption) only [↓mCode, ↓mOps, mAll, seval, vPtr, ite_ne, wrap_i64, boundN_int, fn36, Tryz.f36, mLit, buildIn_array, eq64z, eq66z, decide_true, decide_false, Bool.not_true, Bool.not_false, q1, q2, q3, y']
      exact K _ _ _ ⟨by rw [mk, decide_eq_false y, Bool.false_and], GB⟩
  have q3 : (x.1 = 3) = False := eq_false k3
  by_cases k4 : x.1 = 4
  · have q4 : (x.1 = 4) = True := eq_true k4
    have mk : mayL x = (decide (x.2.1 = zP) && (mayS x.2.2.1 && mayS x.2.2.2)) := by unfold mayL; rw [if_neg (by omega), if_pos (by omega)]
    by_cases y : x.2.1 = zP
    · have y' : (x.2.1 = zP) = True := eq_true y
      simp (maxSteps := 2000000) (disch := first | omega | assumption) only [↓mCode, ↓mOps, mAll, seval, vPtr, ite_ne, wrap_i64, boundN_int, fn36, Tryz.f36, mLit, buildIn_array, eq64z, eq66z, decide_true, decide_false, Bool.not_true, Bool.not_false, q1, q2, q3, q4, y']
      refine (slot02_ok g.2.1).call e0_hook e0_subs ?_
      rintro _ h1 n1 ⟨rfl, G⟩
      have gn : h1.get n = some (.cells (ofT (litC x)) 21 21) := by rw [G.2 n (by omega), T.get_put, if_pos rfl]
      have cB : ∀ {k' : List V → Out}, cellsAt h1 n 17 4 k' = k' (slotC x.2.2.2) := fun {k'} => by rw [cellsAt_eq, gn]; exact load_litB
      cases b : mayS x.2.2.1 with
      | false =>
        simp (maxSteps := 2000000) (disch := first | omega | assumption) only [↓mCode, ↓mOps, mAll, seval, vPtr, ite_ne, wrap_i64, boundN_int, fn36, Tryz.f36, mLit, buildIn_array, eq64z, eq66z, decide_true, decide_false, Bool.not_true, Bool.not_false, b]
        exact K _ _ _ ⟨by rw [mk, b, Bool.false_and, Bool.and_false], GB.trans G⟩
      | true =>
        simp (maxSteps := 2000000) (disch := first | omega | assumption) only [↓mCode, ↓mOps, mAll, seval, vPtr, ite_ne, wrap_i64, boundN_int, fn36, Tryz.f36, mLit, buildIn_array, eq64z, eq66z, decide_true, decide_false, Bool.not_true, Bool.not_false, b, cB]
        refine (slot02_ok g.2.2).call e0_hook e0_subs ?_
        rintro _ h2 n2 ⟨rfl, G2⟩
        simp (maxSteps := 2000000) (disch := first | omega | assumption) only [↓mCode, ↓mOps, mAll, seval, vPtr, ite_ne, wrap_i64, boundN_int, fn36, Tryz.f36, mLit, buildIn_array, eq64z, eq66z, decide_true, decide_false, Bool.not_true, Bool.not_false]
        exact K _ _ _ ⟨by rw [mk, b, decide_eq_true y, Bool.true_and, Bool.true_and], (GB.trans G).trans G2⟩
    · have y' : (x.2.1 = zP) = False := eq_false y
      simp (maxSteps := 2000000) (disch := first | omega | assumption) only [↓mCode, ↓mOps, mAll, seval, vPtr, ite_ne, wrap_i64, boundN_int, fn36, Tryz.f36, mLit, buildIn_array, eq64z, eq66z, decide_true, decide_false, Bool.not_true, Bool.not_false, q1, q2, q3, q4, y']
      exact K _ _ _ ⟨by rw [mk, decide_eq_false y, Bool.false_and], GB⟩
  have q4 : (x.1 = 4) = False := eq_false k4
  have mk : mayL x = false := by unfold mayL; rw [if_neg (by omega), if_neg (by omega)]
  simp (maxSteps := 2000000) (disch := first | omega | assumption) only [↓mCode, ↓mOps, mAll, seval, vPtr, ite_ne, wrap_i64, boundN_int, fn36, Tryz.f36, mLit, buildIn_array, eq64z, eq66z, decide_true, decide_false, Bool.not_true, Bool.not_false, q1, q2, q3, q4]
  exact K _ _ _ ⟨by rw [mk], GB⟩

theorem part_ok {x : LitT} {h : T O} {n : Nat} (g : GdL x) : Fn env0 74 [.agg (litC x)] h n (fun v h' n' => v = .bool (mayL x) ∧ Gro h n h' n') := by
  refine Fn.mk fn74 rfl fz74 (by simp) fun Q cs K => ?_
  have GB : Gro h n (h.put n (some (.cells (ofT (litC x)) 21 21))) (n + 1) := (Gro.refl h n).put _
  by_cases k1 : x.1 = 1
  · have q1 : (x.1 = 1) = True := eq_true k1
    have mk : mayL x = (mayP x.2.1 && (decide (x.2.2.1 = zS) && decide (x.2.2.2 = zS))) := by unfold mayL; rw [if_pos (by omega)]
    simp (maxSteps := 2000000) (disch := first | omega | assumption) only [↓mCode, ↓mOps, mAll, seval, vPtr, ite_ne, wrap_i64, boundN_int, fn74, Tryz.f74, mLit, buildIn_array, eq64z, eq66z, decide_true, decide_false, Bool.not_true, Bool.not_false, q1]
    refine (pat_ok g.1).call e0_hook e0_subs ?_
    rintro _ h1 n1 ⟨rfl, G⟩
    have gn : h1.get n = some (.cells (ofT (litC x)) 21 21) := by rw [G.2 n (by omega), T.get_put, if_pos rfl]
    have cA : ∀ {k' : List V → Out}, cellsAt h1 n 13 4 k' = k' (slotC x.2.2.1) := fun {k'} => by rw [cellsAt_eq, gn]; exact load_litA
    have cB : ∀ {k' : List V → Out}, cellsAt h1 n 17 4 k' = k' (slotC x.2.2.2) := fun {k'} => by rw [cellsAt_eq, gn]; exact load_litB
    cases b : mayP x.2.1 with
    | false =>
      simp (maxSteps := 2000000) (disch := first | omega | assumption) only [↓mCode, ↓mOps, mAll, seval, vPtr, ite_ne, wrap_i64, boundN_int, fn74, Tryz.f74, mLit, buildIn_array, eq64z, eq66z, decide_true, decide_false, Bool.not_true, Bool.not_false, b]
      exact K _ _ _ ⟨by rw [mk, b, Bool.false_and], GB.trans G⟩
    | true =>
      by_cases y : x.2.2.1 = zS
      · have y' : (x.2.2.1 = zS) = True := eq_true y
        simp (maxSteps := 2000000) (disch := first | omega | assumption) only [↓mCode, ↓mOps, mAll, seval, vPtr, ite_ne, wrap_i64, boundN_int, fn74, Tryz.f74, mLit, buildIn_array, eq64z, eq66z, decide_true, decide_false, Bool.not_true, Bool.not_false, b, cA, cB, y']
        exact K _ _ _ ⟨by rw [mk, b, decide_eq_true y, Bool.true_and, Bool.true_and], GB.trans G⟩
      · have y' : (x.2.2.1 = zS) = False := eq_false y
        simp (maxSteps := 2000000) (disch := first | omega | assumption) only [↓mCode, ↓mOps, mAll, seval, vPtr, ite_ne, wrap_i64, boundN_int, fn74, Tryz.f74, mLit, buildIn_array, eq64z, eq66z, decide_true, decide_false, Bool.not_true, Bool.not_false, b, cA, cB, y']
        exact K _ _ _ ⟨by rw [mk, b, decide_eq_false y, Bool.true_and, Bool.false_and], GB.trans G⟩
  have q1 : (x.1 = 1) = False := eq_false k1
  by_cases k2 : x.1 = 2
  · have q2 : (x.1 = 2) = True := eq_true k2
    have mk : mayL x = (mayP x.2.1 && (decide (x.2.2.1 = zS) && decide (x.2.2.2 = zS))) := by unfold mayL; rw [if_pos (by omega)]
    simp (maxSteps := 2000000) (disch := first | omega | assumption) only [↓mCode, ↓mOps, mAll, seval, vPtr, ite_ne, wrap_i64, boundN_int, fn74, Tryz.f74, mLit, buildIn_array, eq64z, eq66z, decide_true, decide_false, Bool.not_true, Bool.not_false, q1, q2]
    refine (pat_ok g.1).call e0_hook e0_subs ?_
    rintro _ h1 n1 ⟨rfl, G⟩
    have gn : h1.get n = some (.cells (ofT (litC x)) 21 21) := by rw [G.2 n (by omega), T.get_put, if_pos rfl]
    have cA : ∀ {k' : List V → Out}, cellsAt h1 n 13 4 k' = k' (slotC x.2.2.1) := fun {k'} => by rw [cellsAt_eq, gn]; exact load_litA
    have cB : ∀ {k' : List V → Out}, cellsAt h1 n 17 4 k' = k' (slotC x.2.2.2) := fun {k'} => by rw [cellsAt_eq, gn]; exact load_litB
    cases b : mayP x.2.1 with
    | false =>
      simp (maxSteps := 2000000) (disch := first | omega | assumption) only [↓mCode, ↓mOps, mAll, seval, vPtr, ite_ne, wrap_i64, boundN_int, fn74, Tryz.f74, mLit, buildIn_array, eq64z, eq66z, decide_true, decide_false, Bool.not_true, Bool.not_false, b]
      exact K _ _ _ ⟨by rw [mk, b, Bool.false_and], GB.trans G⟩
    | true =>
      by_cases y : x.2.2.1 = zS
      · have y' : (x.2.2.1 = zS) = True := eq_true y
        simp (maxSteps := 2000000) (disch := first | omega | assumption) only [↓mCode, ↓mOps, mAll, seval, vPtr, ite_ne, wrap_i64, boundN_int, fn74, Tryz.f74, mLit, buildIn_array, eq64z, eq66z, decide_true, decide_false, Bool.not_true, Bool.not_false, b, cA, cB, y']
        exact K _ _ _ ⟨by rw [mk, b, decide_eq_true y, Bool.true_and, Bool.true_and], GB.trans G⟩
      · have y' : (x.2.2.1 = zS) = False := eq_false y
        simp (maxSteps := 2000000) (disch := first | omega | assumption) only [↓mCode, ↓mOps, mAll, seval, vPtr, ite_ne, wrap_i64, boundN_int, fn74, Tryz.f74, mLit, buildIn_array, eq64z, eq66z, decide_true, decide_false, Bool.not_true, Bool.not_false, b, cA, cB, y']
        exact K _ _ _ ⟨by rw [mk, b, decide_eq_false y, Bool.true_and, Bool.false_and], GB.trans G⟩
  have q2 : (x.1 = 2) = False := eq_false k2
  by_cases k3 : x.1 = 3
  · have q3 : (x.1 = 3) = True := eq_true k3
    have mk : mayL x = (decide (x.2.1 = zP) && (mayS x.2.2.1 && mayS x.2.2.2)) := by unfold mayL; rw [if_neg (by omega), if_pos (by omega)]
    by_cases y : x.2.1 = zP
    · have y' : (x.2.1 = zP) = True := eq_true y
      simp (maxSteps := 2000000) (disch := first | omega | assumption) only [↓mCode, ↓mOps, mAll, seval, vPtr, ite_ne, wrap_i64, boundN_int, fn74, Tryz.f74, mLit, buildIn_array, eq64z, eq66z, decide_true, decide_false, Bool.not_true, Bool.not_false, q1, q2, q3, y']
      refine (slot_ok g.2.1).call e0_hook e0_subs ?_
      rintro _ h1 n1 ⟨rfl, G⟩
      have gn : h1.get n = some (.cells (ofT (litC x)) 21 21) := by rw [G.2 n (by omega), T.get_put, if_pos rfl]
      have cB : ∀ {k' : List V → Out}, cellsAt h1 n 17 4 k' = k' (slotC x.2.2.2) := fun {k'} => by rw [cellsAt_eq, gn]; exact load_litB
      cases b : mayS x.2.2.1 with
      | false =>
        simp (maxSteps := 2000000) (disch := first | omega | assumption) only [↓mCode, ↓mOps, mAll, seval, vPtr, ite_ne, wrap_i64, boundN_int, fn74, Tryz.f74, mLit, buildIn_array, eq64z, eq66z, decide_true, decide_false, Bool.not_true, Bool.not_false, b]
        exact K _ _ _ ⟨by rw [mk, b, Bool.false_and, Bool.and_false], GB.trans G⟩
      | true =>
        simp (maxSteps := 2000000) (disch := first | omega | assumption) only [↓mCode, ↓mOps, mAll, seval, vPtr, ite_ne, wrap_i64, boundN_int, fn74, Tryz.f74, mLit, buildIn_array, eq64z, eq66z, decide_true, decide_false, Bool.not_true, Bool.not_false, b, cB]
        refine (slot_ok g.2.2).call e0_hook e0_subs ?_
        rintro _ h2 n2 ⟨rfl, G2⟩
        simp (maxSteps := 2000000) (disch := first | omega | assumption) only [↓mCode, ↓mOps, mAll, seval, vPtr, ite_ne, wrap_i64, boundN_int, fn74, Tryz.f74, mLit, buildIn_array, eq64z, eq66z, decide_true, decide_false, Bool.not_true, Bool.not_false]
        exact K _ _ _ ⟨by rw [mk, b, decide_eq_true y, Bool.true_and, Bool.true_and], (GB.trans G).trans G2⟩
    · have y' : (x.2.1 = zP) = False := eq_false y
      simp (maxSteps := 2000000) (disch := first | omega | assumption) only [↓mCode, ↓mOps, mAll, seval, vPtr, ite_ne, wrap_i64, boundN_int, fn74, Tryz.f74, mLit, buildIn_array, eq64z, eq66z, decide_true, decide_false, Bool.not_true, Bool.not_false, q1, q2, q3, y']
      exact K _ _ _ ⟨by rw [mk, decide_eq_false y, Bool.false_and], GB⟩
  have q3 : (x.1 = 3) = False := eq_false k3
  by_cases k4 : x.1 = 4
  · have q4 : (x.1 = 4) = True := eq_true k4
    have mk : mayL x = (decide (x.2.1 = zP) && (mayS x.2.2.1 && mayS x.2.2.2)) := by unfold mayL; rw [if_neg (by omega), if_pos (by omega)]
    by_cases y : x.2.1 = zP
    · have y' : (x.2.1 = zP) = True := eq_true y
      simp (maxSteps := 2000000) (disch := first | omega | assumption) only [↓mCode, ↓mOps, mAll, seval, vPtr, ite_ne, wrap_i64, boundN_int, fn74, Tryz.f74, mLit, buildIn_array, eq64z, eq66z, decide_true, decide_false, Bool.not_true, Bool.not_false, q1, q2, q3, q4, y']
      refine (slot_ok g.2.1).call e0_hook e0_subs ?_
      rintro _ h1 n1 ⟨rfl, G⟩
      have gn : h1.get n = some (.cells (ofT (litC x)) 21 21) := by rw [G.2 n (by omega), T.get_put, if_pos rfl]
      have cB : ∀ {k' : List V → Out}, cellsAt h1 n 17 4 k' = k' (slotC x.2.2.2) := fun {k'} => by rw [cellsAt_eq, gn]; exact load_litB
      cases b : mayS x.2.2.1 with
      | false =>
        simp (maxSteps := 2000000) (disch := first | omega | assumption) only [↓mCode, ↓mOps, mAll, seval, vPtr, ite_ne, wrap_i64, boundN_int, fn74, Tryz.f74, mLit, buildIn_array, eq64z, eq66z, decide_true, decide_false, Bool.not_true, Bool.not_false, b]
        exact K _ _ _ ⟨by rw [mk, b, Bool.false_and, Bool.and_false], GB.trans G⟩
      | true =>
        simp (maxSteps := 2000000) (disch := first | omega | assumption) only [↓mCode, ↓mOps, mAll, seval, vPtr, ite_ne, wrap_i64, boundN_int, fn74, Tryz.f74, mLit, buildIn_array, eq64z, eq66z, decide_true, decide_false, Bool.not_true, Bool.not_false, b, cB]
        refine (slot_ok g.2.2).call e0_hook e0_subs ?_
        rintro _ h2 n2 ⟨rfl, G2⟩
        simp (maxSteps := 2000000) (disch := first | omega | assumption) only [↓mCode, ↓mOps, mAll, seval, vPtr, ite_ne, wrap_i64, boundN_int, fn74, Tryz.f74, mLit, buildIn_array, eq64z, eq66z, decide_true, decide_false, Bool.not_true, Bool.not_false]
        exact K _ _ _ ⟨by rw [mk, b, decide_eq_true y, Bool.true_and, Bool.true_and], (GB.trans G).trans G2⟩
    · have y' : (x.2.1 = zP) = False := eq_false y
      simp (maxSteps := 2000000) (disch := first | omega | assumption) only [↓mCode, ↓mOps, mAll, seval, vPtr, ite_ne, wrap_i64, boundN_int, fn74, Tryz.f74, mLit, buildIn_array, eq64z, eq66z, decide_true, decide_false, Bool.not_true, Bool.not_false, q1, q2, q3, q4, y']
      exact K _ _ _ ⟨by rw [mk, decide_eq_false y, Bool.false_and], GB⟩
  have q4 : (x.1 = 4) = False := eq_false k4
  have mk : mayL x = false := by unfold mayL; rw [if_neg (by omega), if_neg (by omega)]
  simp (maxSteps := 2000000) (disch := first | omega | assumption) only [↓mCode, ↓mOps, mAll, seval, vPtr, ite_ne, wrap_i64, boundN_int, fn74, Tryz.f74, mLit, buildIn_array, eq64z, eq66z, decide_true, decide_false, Bool.not_true, Bool.not_false, q1, q2, q3, q4]
  exact K _ _ _ ⟨by rw [mk], GB⟩
end Go.Mir
