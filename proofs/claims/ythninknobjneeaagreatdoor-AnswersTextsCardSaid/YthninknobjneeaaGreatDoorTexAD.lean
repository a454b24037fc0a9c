/- Walks: a part's text, as far as that there is one. -/
import Derived.Test.YthninknobjneeaaGreatDoorTexAC
set_option linter.unusedSimpArgs false
set_option linter.unusedVariables false
namespace Go.Mir
open Go Go.Proofs
set_option maxRecDepth 4000
set_option maxHeartbeats 16000000

theorem same_slot {s : SlotT} {k : Out} : need (sameV (.agg (slotC s)) (.agg (slotC s))) k = k := by
  have : sameV (.agg (slotC s)) (.agg (slotC s)) = true := by
    show (Bool.rec false (Bool.rec false (Bool.rec false (Bool.rec false true (eqL s.2.2.2 s.2.2.2)) (eqL s.2.2.1 s.2.2.1)) (and (sameKind .i64 .i64) (ieq s.2.1 s.2.1))) (eqL s.1 s.1) : Bool) = true
    rw [eqL_self, eqL_self, eqL_self, sameKind_self, ieq_eq]
    simp
  rw [this]; rfl

theorem slotText_ok {s : SlotT} {h : T O} {n : Nat} (g : GdS s) (hm : mayS s = true) : Fn env0 150 [.agg (slotC s)] h n (fun v h' n' => (∃ t, v = .str t ∧ t.length ≤ 1300000) ∧ Gro h n h' n') := by
  obtain ⟨w, k, s, e⟩ := s
  have hw : w.length ≤ 160000 := g.1
  have gt : GdT (k, s, e) := g.2
  have m64 : most64 = 9223372036854775807 := rfl
  refine Fn.mk fn150 rfl fz150 (by simp) fun Q cs K => ?_
  have GB : Gro h n (h.put n (some (.cells (ofT [V.str w, V.int .i64 k, V.str s, V.str e]) 4 4))) (n + 1) := (Gro.refl h n).put _
  by_cases z : w = []
  · have mk : mayS (w, k, s, e) = mayT (k, s, e) := by show (if w = [] then _ else _) = _; rw [if_pos z]
    rw [mk] at hm
    have z' : (w ≠ []) = False := eq_false fun q => q z
    simp (maxSteps := 2000000) (disch := first | omega | assumption) only [↓mCode, ↓mOps, mAll, seval, vPtr, ite_ne, wrap_i64, boundN_int, fn150, Tryz.f150, List.map_nil, List.map_cons, decide_true, decide_false, slotC, z']
    refine (textE_ok (x := (k, s, e)) gt.1 gt.2.1 gt.2.2.1 gt.2.2.2 hm).call e0_hook e0_subs ?_
    rintro _ h1 n1 ⟨rfl, G⟩
    simp (maxSteps := 2000000) (disch := first | omega | assumption) only [↓mCode, ↓mOps, mAll, seval, vPtr, ite_ne, wrap_i64, boundN_int, fn150, Tryz.f150]
    exact K _ _ _ ⟨⟨_, rfl, Nat.le_trans (textT_len gt) (by omega)⟩, GB.trans G⟩
  · have z' : (w ≠ []) = True := eq_true z
    simp (maxSteps := 2000000) (disch := first | omega | assumption) only [↓mCode, ↓mOps, mAll, seval, vPtr, ite_ne, wrap_i64, boundN_int, fn150, Tryz.f150, List.map_nil, List.map_cons, decide_true, decide_false, m64, slotC, z']
    exact K _ _ _ ⟨⟨_, rfl, by simp only [List.length_cons]; omega⟩, GB⟩

theorem patText_ok {p : PatT} {h : T O} {n : Nat} (g : GdP p) (hm : mayP p = true) : Fn env0 147 [.agg (patC p)] h n (fun v h' n' => (∃ t, v = .str t ∧ t.length ≤ 4000000) ∧ Gro h n h' n') := by
  have m64 : most64 = 9223372036854775807 := rfl
  have hm' : mayS p.1 = true ∧ mayS p.2.1 = true ∧ mayS p.2.2 = true := by unfold mayP at hm; simpa using hm
  refine Fn.mk fn147 rfl fz147 (by simp) fun Q cs K => ?_
  have GB : Gro h n (h.put n (some (.cells (ofT (patC p)) 12 12))) (n + 1) := (Gro.refl h n).put _
  simp (maxSteps := 2000000) (disch := first | omega | assumption) only [↓mCode, ↓mOps, mAll, seval, vPtr, ite_ne, wrap_i64, boundN_int, fn147, Tryz.f147, mLit, List.map_nil]
  refine W_draw sr147_1 ss147_1 ?_ ?_
  · exact sk147_1
  simp (maxSteps := 2000000) (disch := first | omega | assumption) only [↓mCode, ↓mOps, mAll, seval, vPtr, ite_ne, wrap_i64, boundN_int, fn147, Tryz.f147, mLit]
  refine (slotText_ok g.1 hm'.1).call e0_hook e0_subs ?_
  rintro _ h1 n1 ⟨⟨t1, rfl, l1⟩, G⟩
  have gn : h1.get n = some (.cells (ofT (patC p)) 12 12) := by rw [G.2 n (by omega), T.get_put, if_pos rfl]
  have c1 : ∀ {k' : List V → Out}, cellsAt h1 n 4 4 k' = k' (slotC p.2.1) := fun {k'} => by rw [cellsAt_eq, gn]; exact load_pat1
  have c2 : ∀ {k' : List V → Out}, cellsAt h1 n 8 4 k' = k' (slotC p.2.2) := fun {k'} => by rw [cellsAt_eq, gn]; exact load_pat2
  simp (maxSteps := 2000000) (disch := first | omega | assumption) only [↓mCode, ↓mOps, mAll, seval, vPtr, ite_ne, wrap_i64, boundN_int, fn147, Tryz.f147, m64, List.map_nil, List.map_cons, same_slot, c1, c2]
  refine (slotText_ok g.2.1 hm'.2.1).call e0_hook e0_subs ?_
  rintro _ h2 n2 ⟨⟨t2, rfl, l2⟩, G2⟩
  have d2 : ∀ {k' : List V → Out}, cellsAt h2 n 8 4 k' = k' (slotC p.2.2) := fun {k'} => by rw [cellsAt_eq, G2.2 n (by have := G.1; omega), gn]; exact load_pat2
  simp (maxSteps := 2000000) (disch := first | omega | assumption) only [↓mCode, ↓mOps, mAll, seval, vPtr, ite_ne, wrap_i64, boundN_int, fn147, Tryz.f147, m64, List.map_nil, List.map_cons, same_slot, d2]
  refine (slotText_ok g.2.2 hm'.2.2).call e0_hook e0_subs ?_
  rintro _ h3 n3 ⟨⟨t3, rfl, l3⟩, G3⟩
  simp (maxSteps := 2000000) (disch := first | omega | assumption) only [↓mCode, ↓mOps, mAll, seval, vPtr, ite_ne, wrap_i64, boundN_int, fn147, Tryz.f147, m64, List.map_nil, List.map_cons, same_slot]
  exact K _ _ _ ⟨⟨_, rfl, by simp only [List.length_append, List.length_cons, List.length_nil]; omega⟩, ((GB.trans G).trans G2).trans G3⟩

theorem clo164_ok {x : LitT} {h : T O} {n id : Nat} (g : GdL x) (hm : mayP x.2.1 = true) (hg : h.get id = some (.cells (ofT (litC x)) 21 21)) : Fn env0 146 [.ptr id 0] h n (fun v h' n' => (∃ t, v = .str t) ∧ Gro h n h' n') := by
  have m64 : most64 = 9223372036854775807 := rfl
  refine Fn.mk fn146 rfl fz146 (by simp) fun Q cs K => ?_
  have c1 : ∀ {k' : List V → Out}, cellsAt h id 1 12 k' = k' (patC x.2.1) := fun {k'} => by rw [cellsAt_eq, hg]; exact load_litP
  simp (maxSteps := 2000000) (disch := first | omega | assumption) only [↓mCode, ↓mOps, mAll, seval, vPtr, ite_ne, wrap_i64, boundN_int, fn146, Tryz.f146, m64, List.map_nil, List.map_cons, c1]
  refine (patText_ok g.1 hm).call e0_hook e0_subs ?_
  rintro _ h1 n1 ⟨⟨t1, rfl, l1⟩, G⟩
  simp (maxSteps := 2000000) (disch := first | omega | assumption) only [↓mCode, ↓mOps, mAll, seval, vPtr, ite_ne, wrap_i64, boundN_int, fn146, Tryz.f146, m64, List.map_nil, List.map_cons]
  exact K _ _ _ ⟨⟨_, rfl⟩, G⟩

theorem clo166_ok {x : LitT} {h : T O} {n id : Nat} (g : GdL x) (hm : mayP x.2.1 = true) (hg : h.get id = some (.cells (ofT (litC x)) 21 21)) : Fn env0 148 [.ptr id 0] h n (fun v h' n' => (∃ t, v = .str t) ∧ Gro h n h' n') := by
  have m64 : most64 = 9223372036854775807 := rfl
  refine Fn.mk fn148 rfl fz148 (by simp) fun Q cs K => ?_
  have c1 : ∀ {k' : List V → Out}, cellsAt h id 1 12 k' = k' (patC x.2.1) := fun {k'} => by rw [cellsAt_eq, hg]; exact load_litP
  simp (maxSteps := 2000000) (disch := first | omega | assumption) only [↓mCode, ↓mOps, mAll, seval, vPtr, ite_ne, wrap_i64, boundN_int, fn148, Tryz.f148, m64, List.map_nil, List.map_cons, c1]
  refine (patText_ok g.1 hm).call e0_hook e0_subs ?_
  rintro _ h1 n1 ⟨⟨t1, rfl, l1⟩, G⟩
  simp (maxSteps := 2000000) (disch := first | omega | assumption) only [↓mCode, ↓mOps, mAll, seval, vPtr, ite_ne, wrap_i64, boundN_int, fn148, Tryz.f148, m64, List.map_nil, List.map_cons]
  exact K _ _ _ ⟨⟨_, rfl⟩, G⟩

theorem clo167_ok {x : LitT} {h : T O} {n id : Nat} (g : GdL x) (ha : mayS x.2.2.1 = true) (hb : mayS x.2.2.2 = true) (hg : h.get id = some (.cells (ofT (litC x)) 21 21)) (hi : id < n) : Fn env0 149 [.ptr id 0] h n (fun v h' n' => (∃ t, v = .str t) ∧ Gro h n h' n') := by
  have m64 : most64 = 9223372036854775807 := rfl
  refine Fn.mk fn149 rfl fz149 (by simp) fun Q cs K => ?_
  have c1 : ∀ {k' : List V → Out}, cellsAt h id 13 4 k' = k' (slotC x.2.2.1) := fun {k'} => by rw [cellsAt_eq, hg]; exact load_litA
  have c2 : ∀ {k' : List V → Out}, cellsAt h id 17 4 k' = k' (slotC x.2.2.2) := fun {k'} => by rw [cellsAt_eq, hg]; exact load_litB
  simp (maxSteps := 2000000) (disch := first | omega | assumption) only [↓mCode, ↓mOps, mAll, seval, vPtr, ite_ne, wrap_i64, boundN_int, fn149, Tryz.f149, m64, List.map_nil, List.map_cons, same_slot]
  refine W_draw sr149_1 ss149_1 ?_ ?_
  · exact sk149_1
  simp (maxSteps := 2000000) (disch := first | omega | assumption) only [↓mCode, ↓mOps, mAll, seval, vPtr, ite_ne, wrap_i64, boundN_int, fn149, Tryz.f149, m64, List.map_nil, List.map_cons, same_slot, c1, c2]
  refine (slotText_ok g.2.1 ha).call e0_hook e0_subs ?_
  rintro _ h1 n1 ⟨⟨t1, rfl, l1⟩, G⟩
  have d2 : ∀ {k' : List V → Out}, cellsAt h1 id 17 4 k' = k' (slotC x.2.2.2) := fun {k'} => by rw [cellsAt_eq, G.2 id hi, hg]; exact load_litB
  simp (maxSteps := 2000000) (disch := first | omega | assumption) only [↓mCode, ↓mOps, mAll, seval, vPtr, ite_ne, wrap_i64, boundN_int, fn149, Tryz.f149, m64, List.map_nil, List.map_cons, same_slot, d2]
  refine (slotText_ok g.2.2 hb).call e0_hook e0_subs ?_
  rintro _ h2 n2 ⟨⟨t2, rfl, l2⟩, G2⟩
  simp (maxSteps := 2000000) (disch := first | omega | assumption) only [↓mCode, ↓mOps, mAll, seval, vPtr, ite_ne, wrap_i64, boundN_int, fn149, Tryz.f149, m64, List.map_nil, List.map_cons, same_slot]
  exact K _ _ _ ⟨⟨_, rfl⟩, G.trans G2⟩

theorem clo169_ok {x : LitT} {h : T O} {n id : Nat} (g : GdL x) (ha : mayS x.2.2.1 = true) (hb : mayS x.2.2.2 = true) (hg : h.get id = some (.cells (ofT (litC x)) 21 21)) (hi : id < n) : Fn env0 151 [.ptr id 0] h n (fun v h' n' => (∃ t, v = .str t) ∧ Gro h n h' n') := by
  have m64 : most64 = 9223372036854775807 := rfl
  refine Fn.mk fn151 rfl fz151 (by simp) fun Q cs K => ?_
  have c1 : ∀ {k' : List V → Out}, cellsAt h id 13 4 k' = k' (slotC x.2.2.1) := fun {k'} => by rw [cellsAt_eq, hg]; exact load_litA
  have c2 : ∀ {k' : List V → Out}, cellsAt h id 17 4 k' = k' (slotC x.2.2.2) := fun {k'} => by rw [cellsAt_eq, hg]; exact load_litB
  simp (maxSteps := 2000000) (disch := first | omega | assumption) only [↓mCode, ↓mOps, mAll, seval, vPtr, ite_ne, wrap_i64, boundN_int, fn151, Tryz.f151, m64, List.map_nil, List.map_cons, same_slot]
  refine W_draw sr151_1 ss151_1 ?_ ?_
  · exact sk151_1
  simp (maxSteps := 2000000) (disch := first | omega | assumption) only [↓mCode, ↓mOps, mAll, seval, vPtr, ite_ne, wrap_i64, boundN_int, fn151, Tryz.f151, m64, List.map_nil, List.map_cons, same_slot, c1, c2]
  refine (slotText_ok g.2.1 ha).call e0_hook e0_subs ?_
  rintro _ h1 n1 ⟨⟨t1, rfl, l1⟩, G⟩
  have d2 : ∀ {k' : List V → Out}, cellsAt h1 id 17 4 k' = k' (slotC x.2.2.2) := fun {k'} => by rw [cellsAt_eq, G.2 id hi, hg]; exact load_litB
  simp (maxSteps := 2000000) (disch := first | omega | assumption) only [↓mCode, ↓mOps, mAll, seval, vPtr, ite_ne, wrap_i64, boundN_int, fn151, Tryz.f151, m64, List.map_nil, List.map_cons, same_slot, d2]
  refine (slotText_ok g.2.2 hb).call e0_hook e0_subs ?_
  rintro _ h2 n2 ⟨⟨t2, rfl, l2⟩, G2⟩
  simp (maxSteps := 2000000) (disch := first | omega | assumption) only [↓mCode, ↓mOps, mAll, seval, vPtr, ite_ne, wrap_i64, boundN_int, fn151, Tryz.f151, m64, List.map_nil, List.map_cons, same_slot]
  exact K _ _ _ ⟨⟨_, rfl⟩, G.trans G2⟩

theorem partText_ok {x : LitT} {h : T O} {n : Nat} (g : GdL x) (hm : mayL x = true) : Fn env0 75 [.agg (litC x)] h n (fun v h' n' => (∃ t, v = .str t) ∧ Gro h n h' n') := by
  refine Fn.mk fn75 rfl fz75 (by simp) fun Q cs K => ?_
  have GB : Gro h n (h.put n (some (.cells (ofT (litC x)) 21 21))) (n + 1) := (Gro.refl h n).put _
  have kk : x.1 = 1 ∨ x.1 = 2 ∨ x.1 = 3 ∨ x.1 = 4 := by
    unfold mayL at hm
    split at hm
    · omega
    · split at hm
      · omega
      · cases hm
  rcases kk with z | z | z | z
  · have p1 : (x.1 = 1) = True := eq_true z
    have p2 : (x.1 = 2) = False := eq_false (by omega)
    have p3 : (x.1 = 3) = False := eq_false (by omega)
    have p4 : (x.1 = 4) = False := eq_false (by omega)
    have hm2 : mayP x.2.1 = true ∧ x.2.2.1 = zS ∧ x.2.2.2 = zS := by unfold mayL at hm; rw [if_pos (by omega)] at hm; simpa using hm
    simp (maxSteps := 2000000) (disch := first | omega | assumption) only [↓mCode, ↓mOps, mAll, seval, vPtr, ite_ne, wrap_i64, boundN_int, fn75, Tryz.f75, mMap, mLit, makeFuncK_eq, List.nil_append, List.cons_append, p1, p2, p3, p4, decide_true, decide_false]
    refine (clo164_ok g hm2.1 ?_).call e0_hook e0_subs ?_
    · simp only [T.get_put]
      repeat rw [if_neg (by omega)]
      rw [if_pos trivial]
    rintro _ h1 n1 ⟨⟨t, rfl⟩, G⟩
    simp (maxSteps := 2000000) (disch := first | omega | assumption) only [↓mCode, ↓mOps, mAll, seval, vPtr, ite_ne, wrap_i64, boundN_int, fn75, Tryz.f75]
    refine K _ _ _ ⟨⟨_, rfl⟩, ⟨by have := G.1; omega, fun j hj => ?_⟩⟩
    rw [G.2 j (by omega)]
    simp only [T.get_put]
    repeat rw [if_neg (by omega)]
  · have p1 : (x.1 = 1) = False := eq_false (by omega)
    have p2 : (x.1 = 2) = True := eq_true z
    have p3 : (x.1 = 3) = False := eq_false (by omega)
    have p4 : (x.1 = 4) = False := eq_false (by omega)
    have hm2 : mayP x.2.1 = true ∧ x.2.2.1 = zS ∧ x.2.2.2 = zS := by unfold mayL at hm; rw [if_pos (by omega)] at hm; simpa using hm
    simp (maxSteps := 2000000) (disch := first | omega | assumption) only [↓mCode, ↓mOps, mAll, seval, vPtr, ite_ne, wrap_i64, boundN_int, fn75, Tryz.f75, mMap, mLit, makeFuncK_eq, List.nil_append, List.cons_append, p1, p2, p3, p4, decide_true, decide_false]
    refine (clo166_ok g hm2.1 ?_).call e0_hook e0_subs ?_
    · simp only [T.get_put]
      repeat rw [if_neg (by omega)]
      rw [if_pos trivial]
    rintro _ h1 n1 ⟨⟨t, rfl⟩, G⟩
    simp (maxSteps := 2000000) (disch := first | omega | assumption) only [↓mCode, ↓mOps, mAll, seval, vPtr, ite_ne, wrap_i64, boundN_int, fn75, Tryz.f75]
    refine K _ _ _ ⟨⟨_, rfl⟩, ⟨by have := G.1; omega, fun j hj => ?_⟩⟩
    rw [G.2 j (by omega)]
    simp only [T.get_put]
    repeat rw [if_neg (by omega)]
  · have p1 : (x.1 = 1) = False := eq_false (by omega)
    have p2 : (x.1 = 2) = False := eq_false (by omega)
    have p3 : (x.1 = 3) = True := eq_true z
    have p4 : (x.1 = 4) = False := eq_false (by omega)
    have hm2 : x.2.1 = zP ∧ mayS x.2.2.1 = true ∧ mayS x.2.2.2 = true := by unfold mayL at hm; rw [if_neg (by omega), if_pos (by omega)] at hm; simpa using hm
    simp (maxSteps := 2000000) (disch := first | omega | assumption) only [↓mCode, ↓mOps, mAll, seval, vPtr, ite_ne, wrap_i64, boundN_int, fn75, Tryz.f75, mMap, mLit, makeFuncK_eq, List.nil_append, List.cons_append, p1, p2, p3, p4, decide_true, decide_false]
    refine (clo167_ok g hm2.2.1 hm2.2.2 ?_ (by omega)).call e0_hook e0_subs ?_
    · simp only [T.get_put]
      repeat rw [if_neg (by omega)]
      rw [if_pos trivial]
    rintro _ h1 n1 ⟨⟨t, rfl⟩, G⟩
    simp (maxSteps := 2000000) (disch := first | omega | assumption) only [↓mCode, ↓mOps, mAll, seval, vPtr, ite_ne, wrap_i64, boundN_int, fn75, Tryz.f75]
    refine K _ _ _ ⟨⟨_, rfl⟩, ⟨by have := G.1; omega, fun j hj => ?_⟩⟩
    rw [G.2 j (by omega)]
    simp only [T.get_put]
    repeat rw [if_neg (by omega)]
  · have p1 : (x.1 = 1) = False := eq_false (by omega)
    have p2 : (x.1 = 2) = False := eq_false (by omega)
    have p3 : (x.1 = 3) = False := eq_false (by omega)
    have p4 : (x.1 = 4) = True := eq_true z
    have hm2 : x.2.1 = zP ∧ mayS x.2.2.1 = true ∧ mayS x.2.2.2 = true := by unfold mayL at hm; rw [if_neg (by omega), if_pos (by omega)] at hm; simpa using hm
    simp (maxSteps := 2000000) (disch := first | omega | assumption) only [↓mCode, ↓mOps, mAll, seval, vPtr, ite_ne, wrap_i64, boundN_int, fn75, Tryz.f75, mMap, mLit, makeFuncK_eq, List.nil_append, List.cons_append, p1, p2, p3, p4, decide_true, decide_false]
    refine (clo169_ok g hm2.2.1 hm2.2.2 ?_ (by omega)).call e0_hook e0_subs ?_
    · simp only [T.get_put]
      repeat rw [if_neg (by omega)]
      rw [if_pos trivial]
    rintro _ h1 n1 ⟨⟨t, rfl⟩, G⟩
    simp (maxSteps := 2000000) (disch := first | omega | assumption) only [↓mCode, ↓mOps, mAll, seval, vPtr, ite_ne, wrap_i64, boundN_int, fn75, Tryz.f75]
    refine K _ _ _ ⟨⟨_, rfl⟩, ⟨by have := G.1; omega, fun j hj => ?_⟩⟩
    rw [G.2 j (by omega)]
    simp only [T.get_put]
    repeat rw [if_neg (by omega)]

theorem PartText_ok {x : LitT} {h : T O} {n : Nat} (g : GdL x) : Fn env0 33 [.agg (litC x)] h n (fun v h' n' => (∃ t, v = .tuple [.str t, .int .i64 (if mayL x = true then 0 else 2)]) ∧ Gro h n h' n') := by
  refine Fn.mk fn33 rfl fz33 (by simp) fun Q cs K => ?_
  have GB : Gro h n (h.put n (some (.cells (ofT (litC x)) 21 21))) (n + 1) := (Gro.refl h n).put _
  simp (maxSteps := 2000000) (disch := first | omega | assumption) only [↓mCode, ↓mOps, mAll, seval, vPtr, ite_ne, wrap_i64, boundN_int, fn33, Tryz.f33, mLit, List.map_nil]
  refine (part_ok g).call e0_hook e0_subs ?_
  rintro _ h1 n1 ⟨rfl, G⟩
  have gn : h1.get n = some (.cells (ofT (litC x)) 21 21) := by rw [G.2 n (by omega), T.get_put, if_pos rfl]
  have c1 : ∀ {k' : List V → Out}, cellsAt h1 n 0 21 k' = k' (litC x) := fun {k'} => by rw [cellsAt_eq, gn]; exact load_lit
  cases b : mayL x with
  | false =>
    simp (maxSteps := 2000000) (disch := first | omega | assumption) only [↓mCode, ↓mOps, mAll, seval, vPtr, ite_ne, wrap_i64, boundN_int, fn33, Tryz.f33, b, Bool.not_false, List.map_nil]
    exact K _ _ _ ⟨⟨[], by rw [b]; rfl⟩, GB.trans G⟩
  | true =>
    simp (maxSteps := 2000000) (disch := first | omega | assumption) only [↓mCode, ↓mOps, mAll, seval, vPtr, ite_ne, wrap_i64, boundN_int, fn33, Tryz.f33, b, Bool.not_true, List.map_nil, c1]
    refine (partText_ok g b).call e0_hook e0_subs ?_
    rintro _ h2 n2 ⟨⟨t, rfl⟩, G2⟩
    simp (maxSteps := 2000000) (disch := first | omega | assumption) only [↓mCode, ↓mOps, mAll, seval, vPtr, ite_ne, wrap_i64, boundN_int, fn33, Tryz.f33]
    exact K _ _ _ ⟨⟨t, by rw [b]; rfl⟩, (GB.trans G).trans G2⟩
end Go.Mir
