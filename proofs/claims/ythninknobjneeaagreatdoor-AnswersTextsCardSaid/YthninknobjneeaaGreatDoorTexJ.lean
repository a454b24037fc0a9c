/- Walks: is a text well made (the program's Valid)? -/
import Derived.Test.YthninknobjneeaaGreatDoorTexH
set_option linter.unusedSimpArgs false
set_option linter.unusedVariables false
namespace Go.Mir
open Go Go.Proofs
set_option maxRecDepth 4000
set_option maxHeartbeats 8000000

/-- how far a text is well made -/
def endF : Nat → List Nat → Nat
  | 0, _ => 0
  | f + 1, s => match getR s with | some (_, m) => m + endF f (s.drop m) | none => 0
def endR (s : List Nat) : Nat := endF s.length s

theorem endF_eq : ∀ (f : Nat) (s : List Nat), s.length ≤ f → endF f s = match getR s with | some (_, m) => m + endR (s.drop m) | none => 0
  | 0, s, h => by
    have : s = [] := List.length_eq_zero_iff.1 (by omega)
    subst this; rfl
  | f + 1, s, h => by
    simp only [endF]
    cases e : getR s with
    | none => rfl
    | some p =>
      obtain ⟨r, m⟩ := p
      have hm := getR_some e
      have hl : (s.drop m).length = s.length - m := by simp
      simp only
      have h1 := endF_eq f (s.drop m) (by omega)
      have h2 : endR (s.drop m) = match getR (s.drop m) with | some (_, m') => m' + endR ((s.drop m).drop m') | none => 0 := by
        by_cases h3 : (s.drop m).length < f + 1
        · exact endF_eq (s.drop m).length (s.drop m) (Nat.le_refl _)
        · omega
      rw [h1, h2]
  termination_by f => f
theorem endR_none {s : List Nat} (h : getR s = none) : endR s = 0 := by unfold endR; rw [endF_eq _ _ (Nat.le_refl _), h]
theorem endR_some {s : List Nat} {r m : Nat} (h : getR s = some (r, m)) : endR s = m + endR (s.drop m) := by
  conv => lhs; unfold endR
  rw [endF_eq _ _ (Nat.le_refl _), h]

theorem W_enter {E : Env} {Q : Rz → Prop} {f : Nat} {fn : Func} {body : Code} {sz : Nat} {args : List V} {fr : Fr} {cs : List Fr} {h : T O} {n : Nat} {fin : Go_ → Kv} (h1 : E.fns.get f = some fn) (h2 : fn.body = some body) (hz : fn.ntmps = sz) (hh : E.hook f args h = none) (hs : E.subs.get f = none) (h3 : args.length ≤ sz)
    (k : W E Q (fun go => go ⟨f, sz, [], none⟩ (argT args sz) [.code body] (fr :: cs) h n)) : W E Q (fun go => enterK E f args fr cs h n go (fin go)) := by
  subst hz
  have e : (fun go => enterK E f args fr cs h n go (fin go)) = fun go => go ⟨f, fn.ntmps, [], none⟩ (argT args fn.ntmps) [.code body] (fr :: cs) h n := by
    funext go; exact enterK_body hh h1 hs h2 h3
  rw [e]; exact k

theorem makeFuncK_eq {regs : T V} {g : Nat} {a b : Array Operand} {k : V → Out} : makeFuncK regs (.func g) a b k = evL regs a.toList fun a => evL regs b.toList fun b => k (.func g a b) := rfl

theorem runes_ok {s : List Nat} {h : T O} {n : Nat} : Fn env0 153 [.str s] h n (fun v h' n' => v = .func 206 [] [.ptr n 0] ∧ h' = h.put n (some (.cells (ofT [.str s]) 1 1)) ∧ n' = n + 1) := by
  refine Fn.mk fn153 rfl fz153 (by simp) fun Q cs K => ?_
  simp (maxSteps := 2000000) (disch := first | omega | assumption) only [↓mCode, ↓mOps, mAll, seval, vPtr, ite_ne, wrap_i64, boundN_int, fn153, Tryz.f153, makeFuncK_eq]
  exact K _ _ _ ⟨rfl, rfl, rfl⟩

/-- GOING OVER THE RUNES: the rounds as they are told -/
theorem range223 {s : List Nat} (hb : ∀ c ∈ s, c < 256) (hl : s.length ≤ 4611686018427387903) {l b : Nat} {Q : Rz → Prop} {fr : Fr} {cs : List Fr} (Inv : Nat → T O → Nat → Prop) (Stop : T O → Nat → Prop)
    (hcell : ∀ p h n, Inv p h n → ∀ {k : V → Out}, cellAt h b 0 k = k (.str s))
    (hy : ∀ p r m h n (F : Fr), getR (s.drop p) = some (r, m) → Inv p h n → (∀ h' n', Inv (p + m) h' n' → W env0 Q (fun go => popK (.bool true) (F :: fr :: cs) h' n' go)) → (∀ h' n', Stop h' n' → W env0 Q (fun go => popK (.bool false) (F :: fr :: cs) h' n' go)) →
      W env0 Q (fun go => om (h.get l) (roundK l [.int .i64 (p : Int), .int .i64 (r : Int)] F (fr :: cs) h n go)))
    (hend : ∀ p h n, p ≤ s.length → getR (s.drop p) = none → Inv p h n → W env0 Q (fun go => popK (.tuple []) (fr :: cs) h n go))
    (hstop : ∀ h n, Stop h n → W env0 Q (fun go => popK (.tuple []) (fr :: cs) h n go))
    {h : T O} {n : Nat} {fin : Go_ → Kv} (h0 : Inv 0 h n) : W env0 Q (fun go => enterK env0 206 [.yield l, .ptr b 0] fr cs h n go (fin go)) := by
  refine W_enter fn206 rfl fz206 e0_hook e0_subs (by simp) ?_
  simp (maxSteps := 2000000) (disch := first | omega | assumption) only [↓mCode, ↓mOps, mAll, seval, vPtr, ite_ne, wrap_i64, boundN_int, fn206, Tryz.f206]
  refine W_loop (fun q regs h' n' => ∃ p : Nat, q = s.length - p ∧ p ≤ s.length ∧ regs.get 0 = some (.yield l) ∧ regs.get 1 = some (.ptr b 0) ∧ regs.get 3 = some (.int .i64 (p : Int)) ∧ Inv p h' n')
    _ ⟨0, rfl, Nat.zero_le _, ?_, ?_, ?_, h0⟩ ?_
  iterate 3
    · simp only [mBase, Nat.reduceEqDiff, Nat.reduceSub, reduceIte] <;> rfl
  rintro q regs h' n' ⟨p, rfl, hp, r0, r1, r3, hi⟩ IH
  have cb : ∀ {k : V → Out}, cellAt h' b 0 k = k (.str s) := hcell p h' n' hi
  by_cases c1 : p < s.length
  · have c1' : (p : Int) < (s.length : Int) := by omega
    have e1 : (s.drop p).take (s.length - p) = s.drop p := List.take_of_length_le (by simp)
    have hbd : ∀ c ∈ s.drop p, c < 256 := fun c hc => hb c (List.mem_of_mem_drop hc)
    have b1 : p ≤ s.length := hp
    simp (maxSteps := 2000000) (disch := first | omega | assumption) only [↓mCode, ↓mOps, mAll, seval, vPtr, ite_ne, wrap_i64, boundN_int, fn206, Tryz.f206, r0, r1, r3, cb, c1', e1, b1]
    refine (get_ok hbd (by simp; omega)).call e0_hook e0_subs ?_
    rintro _ h' n' ⟨rfl, rfl, rfl⟩
    cases hg : getR (s.drop p) with
    | none =>
      have hv : getV (s.drop p) = .tuple [.int .i64 0, .int .i64 0, .int .i64 4] := by unfold getV; rw [hg]
      simp (maxSteps := 2000000) (disch := first | omega | assumption) only [↓mCode, ↓mOps, mAll, seval, vPtr, ite_ne, wrap_i64, boundN_int, fn206, Tryz.f206, r0, r1, r3, hv]
      exact hend p h' n' hp hg hi
    | some x =>
      obtain ⟨r, m⟩ := x
      have hm := getR_some hg
      have hml : m ≤ s.length - p := by have := hm.2.2; simpa using this
      have hv : getV (s.drop p) = .tuple [.int .i64 (r : Int), .int .i64 (m : Int), .int .i64 0] := by unfold getV; rw [hg]
      simp (maxSteps := 2000000) (disch := first | omega | assumption) only [↓mCode, ↓mOps, mAll, seval, vPtr, ite_ne, wrap_i64, boundN_int, fn206, Tryz.f206, ne_eq, not_true_eq_false, r0, r1, r3, hv]
      refine hy p r m h' n' _ hg hi (fun h2 n2 hi2 => ?_) fun h2 n2 hs => ?_
      · simp (maxSteps := 2000000) (disch := first | omega | assumption) only [↓mCode, ↓mOps, mAll, seval, vPtr, ite_ne, wrap_i64, boundN_int, fn206, Tryz.f206, Bool.not_true, r0, r1, r3]
        exact IH (s.length - (p + m)) _ _ _ (by omega) ⟨p + m, rfl, by omega, by simp only [mBase, Nat.reduceEqDiff, Nat.reduceSub, reduceIte, r0], by simp only [mBase, Nat.reduceEqDiff, Nat.reduceSub, reduceIte, r1], by simp only [mBase, Nat.reduceEqDiff, Nat.reduceSub, reduceIte, r3] <;> rfl, hi2⟩
      · simp (maxSteps := 2000000) (disch := first | omega | assumption) only [↓mCode, ↓mOps, mAll, seval, vPtr, ite_ne, wrap_i64, boundN_int, fn206, Tryz.f206, Bool.not_false, r0, r1, r3]
        exact hstop h2 n2 hs
  · have c1' : ¬ (p : Int) < (s.length : Int) := by omega
    have hg : getR (s.drop p) = none := by rw [List.drop_of_length_le (by omega)]; rfl
    simp (maxSteps := 2000000) (disch := first | omega | assumption) only [↓mCode, ↓mOps, mAll, seval, vPtr, ite_ne, wrap_i64, boundN_int, fn206, Tryz.f206, r0, r1, r3, cb, c1']
    exact hend p h' n' hp hg hi
end Go.Mir
namespace Go.Mir
open Go Go.Proofs
set_option maxRecDepth 4000
set_option maxHeartbeats 8000000

theorem valid_ok {s : List Nat} {h : T O} {n : Nat} (hb : ∀ c ∈ s, c < 256) (hl : s.length ≤ 4611686018427387903) : Fn env0 152 [.str s] h n (fun v h' n' => v = .bool (decide (endR s = s.length)) ∧ Gro h n h' n') := by
  refine Fn.mk fn152 rfl fz152 (by simp) fun Q cs K => ?_
  simp (maxSteps := 2000000) (disch := first | omega | assumption) only [↓mCode, ↓mOps, mAll, seval, vPtr, ite_ne, wrap_i64, boundN_int, fn152, Tryz.f152]
  refine runes_ok.call e0_hook e0_subs ?_
  rintro _ _ _ ⟨rfl, rfl, rfl⟩
  simp (maxSteps := 2000000) (disch := first | omega | assumption) only [↓mCode, ↓mOps, mAll, seval, vPtr, ite_ne, wrap_i64, boundN_int, fn152, Tryz.f152, ↓mRound, mRoundV]
  refine range223 hb hl (fun p h' n' => h'.get (n + 1 + 1 + 1) = some ?O0 ∧ h'.get (n + 1) = some (.cells (ofT [.str s]) 1 1) ∧ h'.get (n + 1 + 1) = some .deferred ∧
    (∃ t, h'.get n = some (.cells t 1 1) ∧ t.get 0 = some (.int .i64 (p : Int))) ∧ p + endR (s.drop p) = endR s ∧ n' = n + 1 + 1 + 1 + 1 ∧ ∀ j, j < n → h'.get j = h.get j) (fun _ _ => False) ?c ?y ?e ?s ?i
  case i =>
    refine ⟨by rw [T.get_put, if_pos rfl], ?_, ?_, ⟨(ofT [V.int .i64 0]).put 0 (some (.int .i64 0)), ?_, ?_⟩, ?_, ?_, ?_⟩
    · rw [T.get_put, if_neg (by omega), T.get_put, if_neg (by omega), T.get_put, if_pos rfl]
    · rw [T.get_put, if_neg (by omega), T.get_put, if_pos rfl]
    · rw [T.get_put, if_neg (by omega), T.get_put, if_neg (by omega), T.get_put, if_neg (by omega), T.get_put, if_pos rfl]
    · rw [T.get_put, if_pos rfl]; rfl
    · simp
    · rfl
    · intro j hj
      simp only [T.get_put]
      repeat rw [if_neg (by omega)]
  case c =>
    rintro p h' n' ⟨i1, i2, _⟩ k
    rw [cellAt_eq, i2]; rfl
  case y =>
    rintro p r m h' n' F hg ⟨i1, i2, i3, ⟨t, i4, i5⟩, i6, rfl, i7⟩ k1 _
    have hsz : sizeR r = m := by
      cases e : s.drop p with
      | nil => rw [e] at hg; cases hg
      | cons c t =>
        rw [e] at hg
        obtain ⟨q, rfl⟩ : ∃ q, m = q + 1 := ⟨m - 1, by have := (getR_some hg).1; omega⟩
        obtain ⟨_, _, _, _, h5⟩ := getR_iff.1 hg
        exact h5
    simp (maxSteps := 2000000) (disch := first | omega | assumption) only [↓mCode, ↓mOps, mAll, seval, vPtr, ite_ne, wrap_i64, boundN_int, fn152, Tryz.f152, ↓mRound, mRoundV, i1]
    refine size_ok.call e0_hook e0_subs ?_
    rintro _ h2 n2 ⟨rfl, rfl, rfl⟩
    have hml : p + m ≤ s.length := by have h1 := (getR_some hg).1; have h2 := (getR_some hg).2.2; rw [List.length_drop] at h2; omega
    have es : (p : Int) + (sizeR r : Int) = ((p + m : Nat) : Int) := by rw [hsz]; omega
    simp (maxSteps := 2000000) (disch := first | omega | assumption) only [↓mCode, ↓mOps, mAll, seval, vPtr, ite_ne, wrap_i64, boundN_int, fn152, Tryz.f152, ↓mRound, mRoundV, es, i4]
    refine k1 _ _ ⟨by rw [T.get_put, if_pos rfl], ?_, ?_, ⟨_, by rw [T.get_put, if_neg (by omega), T.get_put, if_pos rfl], by rw [T.get_put, if_pos rfl]⟩, ?_, rfl, fun j hj => ?_⟩
    · rw [T.get_put, if_neg (by omega), T.get_put, if_neg (by omega), T.get_put, if_neg (by omega)]; exact i2
    · rw [T.get_put, if_neg (by omega), T.get_put, if_neg (by omega), T.get_put, if_neg (by omega)]; exact i3
    · rw [← i6, endR_some hg, List.drop_drop]; omega
    · rw [T.get_put, if_neg (by omega), T.get_put, if_neg (by omega), T.get_put, if_neg (by omega)]; exact i7 j hj
  case e =>
    rintro p h' n' hp hg ⟨i1, i2, i3, ⟨t, i4, i5⟩, i6, rfl, i7⟩
    have hce : ∀ {k : V → Out}, cellAt h' n 0 k = k (.int .i64 (p : Int)) := fun {k} => by
      rw [cellAt_eq, i4]
      show om (t.get 0) k = _
      rw [i5]; rfl
    have hpe : p = endR s := by rw [← i6, endR_none hg]; rfl
    have ed : decide ((p : Int) = (s.length : Int)) = decide (endR s = s.length) := by rw [← hpe]; exact decide_eq_decide.2 (by omega)
    simp (maxSteps := 2000000) (disch := first | omega | assumption) only [↓mCode, ↓mOps, mAll, seval, vPtr, ite_ne, wrap_i64, boundN_int, fn152, Tryz.f152, ↓mRound, mRoundV, i1, i3, hce]
    refine K _ _ _ ⟨by rw [ed], by omega, fun j hj => ?_⟩
    rw [T.get_put, if_neg (by omega), T.get_put, if_neg (by omega)]; exact i7 j hj
  case s => exact fun _ _ h => h.elim
end Go.Mir
