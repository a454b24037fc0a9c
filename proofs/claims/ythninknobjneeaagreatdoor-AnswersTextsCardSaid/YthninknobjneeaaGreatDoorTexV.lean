/- Walks: what a language's text asks for; the table of kinds; may a term be (the program's May)? -/
import Derived.Test.YthninknobjneeaaGreatDoorTexR
import Derived.Test.YthninknobjneeaaGreatDoorWG
set_option linter.unusedSimpArgs false
set_option linter.unusedVariables false
namespace Go.Mir
open Go Go.Proofs
set_option maxRecDepth 4000
set_option maxHeartbeats 8000000

/-- the parts of a text between its bytes 45 -/
def parts : List Nat → List (List Nat)
  | [] => [[]]
  | c :: l => if c = 45 then [] :: parts l else (c :: (parts l).headD []) :: (parts l).tail

theorem parts_ne : ∀ l, parts l ≠ []
  | [] => by simp [parts]
  | c :: l => by simp only [parts]; split <;> simp

theorem parts_idx : ∀ {l : List Nat}, 45 ∈ l → parts l = l.take (l.findIdx (· == 45)) :: parts (l.drop (l.findIdx (· == 45) + 1))
  | [], h => by simp at h
  | c :: l, h => by
    by_cases e : c = 45
    · subst e; simp [parts, List.findIdx_cons]
    · have h2 : 45 ∈ l := by simpa [Ne.symm e] using h
      have hf : (c :: l).findIdx (· == 45) = l.findIdx (· == 45) + 1 := by
        rw [List.findIdx_cons, show (c == 45) = false by simp [e]]; rfl
      rw [hf, List.take_succ_cons, List.drop_succ_cons]
      simp only [parts, if_neg e]
      rw [parts_idx h2]; rfl
theorem parts_none : ∀ {l : List Nat}, 45 ∉ l → parts l = [l]
  | [], _ => rfl
  | c :: l, h => by
    simp only [List.mem_cons, not_or] at h
    simp only [parts, if_neg (Ne.symm h.1)]
    rw [parts_none h.2]; rfl
theorem parts_len : ∀ l : List Nat, (parts l).length = l.count 45 + 1
  | [] => rfl
  | c :: l => by
    have ih := parts_len l
    have ne := parts_ne l
    by_cases e : c = 45
    · subst e; simp [parts, ih]
    · simp only [parts, if_neg e, List.length_cons, List.length_tail, ih]
      rw [List.count_cons_of_ne e]; omega

theorem cnt_go (c : Nat) (k : Nat → Out) : ∀ (l : List Nat) (n : Nat), (List.rec (motive := fun _ => Nat → Out) (fun n => k n) (fun b _ ih n => Bool.rec (ih n) (ih (Nat.succ n)) (Nat.beq b c)) l n : Out) = k (n + l.count c)
  | [], n => by simp
  | b :: l, n => by
    show (Bool.rec (motive := fun _ => Out) (List.rec (motive := fun _ => Nat → Out) (fun n => k n) (fun b _ ih n => Bool.rec (ih n) (ih (Nat.succ n)) (Nat.beq b c)) l n) (List.rec (motive := fun _ => Nat → Out) (fun n => k n) (fun b _ ih n => Bool.rec (ih n) (ih (Nat.succ n)) (Nat.beq b c)) l (Nat.succ n)) (Nat.beq b c) : Out) = _
    rw [cnt_go c k l n, cnt_go c k l (Nat.succ n)]
    by_cases e : b = c
    · subst e
      rw [Nat.beq_refl b, List.count_cons_self]
      show k _ = _
      congr 1; omega
    · have e2 : Nat.beq b c = false := by
        cases hb : Nat.beq b c with
        | false => rfl
        | true => exact absurd (Nat.eq_of_beq_eq_true hb) e
      rw [e2, List.count_cons_of_ne e]

theorem extK_count {l : List Nat} {c : Nat} {h : T O} {n : Nat} {k : Kv} (hc : c < 256) : extK .count [.str l, .int .u8 (c : Int)] h n k = k (.int .i64 (l.count c : Int)) h n := by
  have e0 : Nat.ble c 255 = true := Nat.ble_eq_true_of_le (by omega)
  show need (Nat.ble c 255) (cntOf l c fun i => kN (fun v => k v h n) i) = _
  rw [e0]
  show cntOf l c (fun i => kN (fun v => k v h n) i) = _
  unfold cntOf
  rw [cnt_go, Nat.zero_add, kN_eq']

theorem count1_ok {l : List Nat} {h : T O} {n : Nat} : Fn env0 251 [.str l, .str [45]] h n (fun v h' n' => v = .int .i64 (l.count 45 : Int) ∧ h' = h ∧ n' = n) := by
  refine Fn.mk fn251 rfl fz251 (by simp) fun Q cs K => ?_
  have ex : ∀ {h : T O} {n : Nat} {k : Kv}, extK .count [.str l, .int .u8 45] h n k = k (.int .i64 (l.count 45 : Int)) h n := extK_count (c := 45) (by omega)
  simp (maxSteps := 2000000) (disch := first | omega | assumption) only [↓mCode, ↓mOps, mAll, seval, vPtr, ite_ne, wrap_i64, boundN_int, fn251, Tryz.f251, reduceCtorEq, List.map_nil, List.map_cons, enterK_ext (E := env0) (f := 274) e0_hook fn274 e0_subs rfl e0_ext274, ex]
  exact K _ _ _ ⟨rfl, rfl, rfl⟩

theorem index291_ok {l : List Nat} {h : T O} {n : Nat} : Fn env0 275 [.str l, .str [45]] h n (fun v h' n' => v = .int .i64 (idxZ l 45) ∧ h' = h ∧ n' = n) := by
  refine Fn.mk fn275 rfl fz275 (by simp) fun Q cs K => ?_
  by_cases q : [45] = l
  · subst q
    simp (maxSteps := 2000000) (disch := first | omega | assumption) only [↓mCode, ↓mOps, mAll, seval, vPtr, ite_ne, wrap_i64, boundN_int, fn275, Tryz.f275, reduceCtorEq, List.map_nil, List.map_cons]
    exact K _ _ _ ⟨by unfold idxZ; simp [List.findIdx_cons], rfl, rfl⟩
  have q' : ([45] = l) = False := eq_false q
  simp (maxSteps := 2000000) (disch := first | omega | assumption) only [↓mCode, ↓mOps, mAll, seval, vPtr, ite_ne, wrap_i64, boundN_int, fn275, Tryz.f275, reduceCtorEq, List.map_nil, List.map_cons, q']
  refine (index225_ok (c := 45) (by omega)).call e0_hook e0_subs ?_
  rintro _ _ _ ⟨rfl, rfl, rfl⟩
  simp (maxSteps := 2000000) (disch := first | omega | assumption) only [↓mCode, ↓mOps, mAll, seval, vPtr, ite_ne, wrap_i64, boundN_int, fn275, Tryz.f275]
  exact K _ _ _ ⟨rfl, rfl, rfl⟩
theorem index268_ok {l : List Nat} {h : T O} {n : Nat} : Fn env0 252 [.str l, .str [45]] h n (fun v h' n' => v = .int .i64 (idxZ l 45) ∧ h' = h ∧ n' = n) := by
  refine Fn.mk fn252 rfl fz252 (by simp) fun Q cs K => ?_
  simp (maxSteps := 2000000) (disch := first | omega | assumption) only [↓mCode, ↓mOps, mAll, seval, vPtr, ite_ne, wrap_i64, boundN_int, fn252, Tryz.f252]
  refine index291_ok.call e0_hook e0_subs ?_
  rintro _ _ _ ⟨rfl, rfl, rfl⟩
  simp (maxSteps := 2000000) (disch := first | omega | assumption) only [↓mCode, ↓mOps, mAll, seval, vPtr, ite_ne, wrap_i64, boundN_int, fn252, Tryz.f252]
  exact K _ _ _ ⟨rfl, rfl, rfl⟩

theorem getD_snoc {α : Type _} {d : List α} {x y : α} : (d ++ [x]).getD d.length y = x := by
  rw [List.getD_eq_getElem?_getD, List.getElem?_append_right (Nat.le_refl _), Nat.sub_self]; rfl
theorem getD_snocl {α : Type _} {d l : List α} {y : α} {j : Nat} (h : j < d.length) : (d ++ l).getD j y = d.getD j y := by
  rw [List.getD_eq_getElem?_getD, List.getElem?_append_left h, List.getD_eq_getElem?_getD]
theorem makeS_eq {te : TI} {z : V} {m : Nat} {ka : O → (Nat → V) → Out} (hz : te.zero = [z]) (hs : te.size = 1) (hm : m ≤ 1000000) : makeSliceK te (.int .i64 (m : Int)) (.int .i64 (m : Int)) ka = ka (.cells (ofT (List.replicate m z)) m 1) (fun id => .slice id 0 m true m m) := by
  unfold makeSliceK
  rw [ixOf_int (by omega), ixOf_int (by omega), hz, hs, Int.toNat_natCast, repL_eq, blockK_eq]
  have e : (List.replicate m [z]).flatten = List.replicate m z := by
    induction m with
    | zero => rfl
    | succ m ih => rw [List.replicate_succ, List.flatten_cons, ih (by omega), List.replicate_succ]; rfl
  rw [e, List.length_replicate, show Nat.ble m m = true from Nat.ble_eq_true_of_le (Nat.le_refl m), show Nat.ble m 1000000 = true from Nat.ble_eq_true_of_le hm]
  rfl

/-- what genSplit has put into its row: the first i parts -/
def Parted (t : T V) (m : Nat) (ps : List (List Nat)) : Prop := ∀ j, j < m → t.get j = some (.str (ps.getD j []))

theorem genSplit_ok {s : List Nat} {h : T O} {n : Nat} (hl : s.length ≤ 900000) : Fn env0 209 [.str s, .str [45], .int .i64 0, .int .i64 (-1)] h n
    (fun v h' n' => ∃ id k t m, v = .slice id 0 (parts s).length true k k ∧ (parts s).length ≤ k ∧ h'.get id = some (.cells t m 1) ∧ (parts s).length ≤ m ∧ n ≤ id ∧ id < n' ∧ Parted t (parts s).length (parts s) ∧ Gro h n h' n') := by
  have hcl : s.count 45 ≤ s.length := List.count_le_length
  have hlen := parts_len s
  refine Fn.mk fn209 rfl fz209 (by simp) fun Q cs K => ?_
  simp (maxSteps := 2000000) (disch := first | omega | assumption) only [↓mCode, ↓mOps, mAll, seval, vPtr, ite_ne, wrap_i64, boundN_int, fn209, Tryz.f209, reduceCtorEq, List.map_nil, List.map_cons]
  refine count1_ok.call e0_hook e0_subs ?_
  rintro _ h' n' ⟨rfl, rfl, rfl⟩
  generalize hL : (parts s).length = L at *
  have mm : (if (s.length : Int) + 1 < (s.count 45 : Int) + 1 then (s.length : Int) + 1 else (s.count 45 : Int) + 1) = (L : Int) := by split <;> omega
  have mk : ∀ {ka : O → (Nat → V) → Out}, makeSliceK { kind := .string, size := 1, bytes := 16, zero := [.str []] } (.int .i64 (L : Int)) (.int .i64 (L : Int)) ka = ka (.cells (ofT (List.replicate L (.str []))) L 1) (fun id => .slice id 0 L true L L) := makeS_eq rfl rfl (by omega)
  simp (maxSteps := 2000000) (disch := first | omega | assumption) only [↓mCode, ↓mOps, mAll, seval, vPtr, ite_ne, wrap_i64, boundN_int, fn209, Tryz.f209, mm, mk]
  refine W_loopE (fun q regs h1 n1 => ∃ (d : List (List Nat)) (r : List Nat) (t : T V), q = L - d.length ∧ parts s = d ++ parts r ∧ r.length ≤ s.length ∧ regs.get 0 = some (.str r) ∧ regs.get 1 = some (.str [45]) ∧ regs.get 2 = some (.int .i64 0) ∧
      regs.get 3 = some (.int .i64 ((L : Int) - 1)) ∧ regs.get 9 = some (.slice n' 0 L true L L) ∧ regs.get 10 = some (.int .i64 (d.length : Int)) ∧ h1.get n' = some (.cells t L 1) ∧ (∀ j, j < d.length → t.get j = some (.str (d.getD j []))) ∧ (∀ j, j < n' → h1.get j = h'.get j) ∧ n1 = n' + 1)
    (fun regs h1 n1 => ∃ (d : List (List Nat)) (r : List Nat) (t : T V), parts s = d ++ [r] ∧ regs.get 0 = some (.str r) ∧ regs.get 9 = some (.slice n' 0 L true L L) ∧ regs.get 10 = some (.int .i64 (d.length : Int)) ∧ h1.get n' = some (.cells t L 1) ∧ (∀ j, j < d.length → t.get j = some (.str (d.getD j []))) ∧ (∀ j, j < n' → h1.get j = h'.get j) ∧ n1 = n' + 1)
    _ ⟨[], s, _, rfl, rfl, by omega, ?_, ?_, ?_, ?_, ?_, ?_, by rw [T.get_put, if_pos rfl], fun j hj => absurd hj (by simp), fun j hj => by rw [T.get_put, if_neg (by omega)], rfl⟩ ?_ ?_
  iterate 6
    · simp only [mBase, Nat.reduceEqDiff, Nat.reduceSub, reduceIte] <;> rfl
  · rintro tt hexit q regs h1 n1 ⟨d, r, t, rfl, hd, hr, r0, r1, r2, r3, r9, r10, hn, ht, hk, rfl⟩ IH
    have hdl : L = d.length + (parts r).length := by rw [← hL, hd, List.length_append]
    have hrl := parts_len r
    by_cases c1 : 45 ∈ r
    · have hcp : 0 < r.count 45 := List.count_pos_iff.2 c1
      have c1' : ((d.length : Int) < (L : Int) - 1) = True := eq_true (by omega)
      simp (maxSteps := 2000000) (disch := first | omega | assumption) only [↓mCode, ↓mOps, mAll, seval, vPtr, ite_ne, wrap_i64, boundN_int, fn209, Tryz.f209, r0, r1, r2, r3, r9, r10, c1']
      refine index268_ok.call e0_hook e0_subs ?_
      rintro _ h2 n2 ⟨rfl, rfl, rfl⟩
      have hz : idxZ r 45 = ((r.findIdx (· == 45) : Nat) : Int) := by unfold idxZ; rw [if_pos c1]
      have hzl : r.findIdx (· == 45) < r.length := List.findIdx_lt_length.2 ⟨45, c1, by simp⟩
      have hpp := parts_idx c1
      generalize r.findIdx (· == 45) = p at *
      have hz' : ((p : Int) < 0) = False := eq_false (by omega)
      have e1 : ((p : Int) + 0).toNat = p := by omega
      have e2 : ((p : Int) + 1).toNat = p + 1 := by omega
      simp (maxSteps := 2000000) (disch := first | omega | assumption) only [↓mCode, ↓mOps, mAll, seval, vPtr, ite_ne, wrap_i64, boundN_int, fn209, Tryz.f209, r0, r1, r2, r3, r9, r10, c1', hz, hz', e1, e2, hn, Nat.mul_one, Nat.sub_zero]
      have ez : (r.drop (p + 1)).take (r.length - (p + 1)) = r.drop (p + 1) := List.take_of_length_le (by rw [List.length_drop]; omega)
      refine IH (L - (d.length + 1)) _ _ _ (by omega) ⟨d ++ [r.take p], r.drop (p + 1), _, by rw [List.length_append]; rfl, by rw [hd, hpp, List.append_assoc]; rfl, by rw [List.length_drop]; omega, ?_, ?_, ?_, ?_, ?_, ?_,
        by rw [T.get_put, if_pos rfl], fun j hj => ?_, fun j hj => by rw [T.get_put, if_neg (by omega)]; exact hk j hj, rfl⟩
      iterate 6
        · simp only [mBase, Nat.reduceEqDiff, Nat.reduceSub, reduceIte, r0, ez, r1, r2, r3, r9, r10] <;> rfl
      · rw [List.length_append, List.length_singleton] at hj
        rw [T.get_put]
        by_cases e : j = d.length
        · rw [if_pos e, e, getD_snoc]
        · rw [if_neg e, ht j (by omega), getD_snocl (by omega)]
    · have hp1 := parts_none c1
      have c1' : ((d.length : Int) < (L : Int) - 1) = False := eq_false (by rw [hdl, hp1]; simp)
      simp (maxSteps := 2000000) (disch := first | omega | assumption) only [↓mCode, ↓mOps, mAll, seval, vPtr, ite_ne, wrap_i64, boundN_int, fn209, Tryz.f209, r0, r1, r2, r3, r9, r10, c1']
      refine hexit _ _ _ ⟨d, r, t, by rw [hd, hp1], ?_, ?_, ?_, hn, ht, hk, rfl⟩
      iterate 3
        · simp only [mBase, Nat.reduceEqDiff, Nat.reduceSub, reduceIte, r0, r9, r10] <;> rfl
  · rintro regs h1 n1 ⟨d, r, t, hd, r0, r9, r10, hn, ht, hk, rfl⟩
    have hdl : L = d.length + 1 := by rw [← hL, hd, List.length_append]; rfl
    have e1 : ((d.length : Int) + 1).toNat = L := by omega
    have lt1 : d.length < L := by omega
    simp (maxSteps := 2000000) (disch := first | omega | assumption) only [↓mCode, ↓mOps, mAll, seval, vPtr, ite_ne, wrap_i64, boundN_int, fn209, Tryz.f209, r0, r9, r10, hn, e1, lt1, Nat.mul_one, Nat.sub_zero]
    refine K _ _ _ ⟨n', L, _, L, rfl, Nat.le_refl _, by rw [T.get_put, if_pos rfl], Nat.le_refl _, Nat.le_refl _, by omega, fun j hj => ?_, by omega, fun j hj => by rw [T.get_put, if_neg (by omega)]; exact hk j hj⟩
    rw [T.get_put, hd]
    by_cases e : j = d.length
    · rw [if_pos e, e, getD_snoc]
    · rw [if_neg e, ht j (by omega), getD_snocl (by omega)]

theorem split_ok {s : List Nat} {h : T O} {n : Nat} (hl : s.length ≤ 900000) : Fn env0 157 [.str s, .str [45]] h n
    (fun v h' n' => (∃ id k, v = .slice id 0 (parts s).length true k k) ∧ Sl h' 1 (fun j => .str ((parts s).getD j [])) v (parts s).length ∧ Gro h n h' n') := by
  refine Fn.mk fn157 rfl fz157 (by simp) fun Q cs K => ?_
  simp (maxSteps := 2000000) (disch := first | omega | assumption) only [↓mCode, ↓mOps, mAll, seval, vPtr, ite_ne, wrap_i64, boundN_int, fn157, Tryz.f157]
  refine (genSplit_ok hl).call e0_hook e0_subs ?_
  rintro v h' n' ⟨id, k, t, m, rfl, hk, hg, hm, h1, h2, hp, G⟩
  simp (maxSteps := 2000000) (disch := first | omega | assumption) only [↓mCode, ↓mOps, mAll, seval, vPtr, ite_ne, wrap_i64, boundN_int, fn157, Tryz.f157]
  refine K _ _ _ ⟨⟨id, k, rfl⟩, .slice _ _ _ _ _ _ hk ⟨_, t, m, 1, hg, .inl rfl, by omega, fun j hj => by rw [Nat.zero_add]; exact hp j (by omega)⟩, G⟩
end Go.Mir
namespace Go.Mir
open Go Go.Proofs
set_option maxRecDepth 4000
set_option maxHeartbeats 8000000

def okC (f : Bool) (c : Nat) : Prop := smallB c = true ∨ (f = true ∧ digitB c = true)
/-- by the parts -/
def goodP (f b : Bool) (ps : List (List Nat)) : Prop := (b = true → ps.headD [] ≠ []) ∧ (∀ c ∈ ps.headD [], okC f c) ∧ ∀ p ∈ ps.tail, p ≠ [] ∧ ∀ c ∈ p, okC true c
def aut : Bool → Bool → List Nat → Prop
  | _, b, [] => b = false
  | f, b, c :: l => if c = 45 then b = false ∧ aut true true l else okC f c ∧ aut f false l
/-- by the places -/
def goodI (f b : Bool) (l : List Nat) : Prop := (l = [] → b = false) ∧ (b = true → l[0]? ≠ some 45) ∧ (l ≠ [] → l[l.length - 1]? ≠ some 45) ∧
  ∀ j c, l[j]? = some c → (c = 45 → 1 ≤ j → l[j - 1]? ≠ some 45) ∧ (c ≠ 45 → smallB c = true ∨ (digitB c = true ∧ (f = true ∨ ∃ i, i < j ∧ l[i]? = some 45)))

theorem goodP_aut : ∀ (l : List Nat) (f b : Bool), goodP f b (parts l) ↔ aut f b l
  | [], f, b => by simp [goodP, parts, aut]
  | c :: l, f, b => by
    by_cases e : c = 45
    · subst e
      have ih := goodP_aut l true true
      obtain ⟨p, ps, hp⟩ : ∃ p ps, parts l = p :: ps := by
        cases h : parts l with
        | nil => exact absurd h (parts_ne l)
        | cons p ps => exact ⟨p, ps, rfl⟩
      rw [hp] at ih
      simp only [aut, if_pos, ← ih, parts, hp]
      simp [goodP, and_assoc]
    · have ih := goodP_aut l f false
      obtain ⟨p, ps, hp⟩ : ∃ p ps, parts l = p :: ps := by
        cases h : parts l with
        | nil => exact absurd h (parts_ne l)
        | cons p ps => exact ⟨p, ps, rfl⟩
      rw [hp] at ih
      simp only [aut, if_neg e, ← ih, parts, hp]
      simp [goodP, and_assoc]

theorem last_cons {c : Nat} {l : List Nat} (h : l ≠ []) : (c :: l)[(c :: l).length - 1]? = l[l.length - 1]? := by
  obtain ⟨k, hk⟩ : ∃ k, l.length = k + 1 := ⟨l.length - 1, by have := List.length_pos_iff.2 h; omega⟩
  rw [List.length_cons, hk, Nat.add_sub_cancel, Nat.add_sub_cancel, List.getElem?_cons_succ]

theorem goodI_aut : ∀ (l : List Nat) (f b : Bool), goodI f b l ↔ aut f b l
  | [], f, b => by simp [goodI, aut]
  | c :: l, f, b => by
    by_cases e : c = 45
    · subst e
      simp only [aut, if_pos]
      rw [← goodI_aut l true true]
      constructor
      · rintro ⟨-, h2, h3, h4⟩
        have hne : l ≠ [] := by rintro rfl; exact h3 (by simp) rfl
        refine ⟨by cases b with | false => rfl | true => exact absurd rfl (h2 rfl), fun h => absurd h hne, fun _ h0 => ?_, fun _ => ?_, fun j x hx => ⟨fun hx5 hj => ?_, fun hx5 => ?_⟩⟩
        · exact (h4 1 45 (by simpa using h0)).1 rfl (by omega) (by simp)
        · rw [← last_cons (c := 45) hne]; exact h3 (by simp)
        · have := (h4 (j + 1) x (by simpa using hx)).1 hx5 (by omega)
          obtain ⟨k, rfl⟩ : ∃ k, j = k + 1 := ⟨j - 1, by omega⟩
          simpa using this
        · rcases (h4 (j + 1) x (by simpa using hx)).2 hx5 with h | ⟨h, _⟩
          · exact .inl h
          · exact .inr ⟨h, .inl rfl⟩
      · rintro ⟨rfl, h1, h2, h3, h4⟩
        have hne : l ≠ [] := by rintro rfl; have := h1 rfl; cases this
        refine ⟨fun _ => rfl, fun h => (by cases h), fun _ => ?_, fun j x hx => ⟨fun hx5 hj => ?_, fun hx5 => ?_⟩⟩
        · rw [last_cons hne]; exact h3 hne
        · obtain ⟨k, rfl⟩ : ∃ k, j = k + 1 := ⟨j - 1, by omega⟩
          simp only [List.getElem?_cons_succ] at hx
          rw [Nat.add_sub_cancel]
          cases k with
          | zero => exact absurd (hx.trans (by rw [hx5])) (h2 rfl)
          | succ k => simpa using (h4 (k + 1) x hx).1 hx5 (by omega)
        · cases j with
          | zero => simp at hx; exact absurd hx.symm hx5
          | succ j =>
            simp only [List.getElem?_cons_succ] at hx
            rcases (h4 j x hx).2 hx5 with h | ⟨h, _⟩
            · exact .inl h
            · exact .inr ⟨h, .inr ⟨0, by omega, rfl⟩⟩
    · simp only [aut, if_neg e]
      rw [← goodI_aut l f false]
      constructor
      · rintro ⟨-, h2, h3, h4⟩
        refine ⟨?_, fun _ => rfl, fun h => (by cases h), fun hne => ?_, fun j x hx => ⟨fun hx5 hj => ?_, fun hx5 => ?_⟩⟩
        · rcases (h4 0 c rfl).2 e with h | ⟨h, h' | ⟨i, hi, _⟩⟩
          · exact .inl h
          · exact .inr ⟨h', h⟩
          · omega
        · rw [← last_cons (c := c) hne]; exact h3 (by simp)
        · have := (h4 (j + 1) x (by simpa using hx)).1 hx5 (by omega)
          obtain ⟨k, rfl⟩ : ∃ k, j = k + 1 := ⟨j - 1, by omega⟩
          simpa using this
        · rcases (h4 (j + 1) x (by simpa using hx)).2 hx5 with h | ⟨h, h' | ⟨i, hi, h'⟩⟩
          · exact .inl h
          · exact .inr ⟨h, .inl h'⟩
          · cases i with
            | zero => simp at h'; exact absurd h' e
            | succ i => exact .inr ⟨h, .inr ⟨i, by omega, by simpa using h'⟩⟩
      · rintro ⟨h0, -, -, h3, h4⟩
        refine ⟨fun h => (by cases h), fun _ h => e (by simpa using h), fun _ => ?_, fun j x hx => ⟨fun hx5 hj => ?_, fun hx5 => ?_⟩⟩
        · by_cases hne : l = []
          · subst hne; intro h; exact e (by simpa using h)
          · rw [last_cons hne]; exact h3 hne
        · obtain ⟨k, rfl⟩ : ∃ k, j = k + 1 := ⟨j - 1, by omega⟩
          simp only [List.getElem?_cons_succ] at hx
          rw [Nat.add_sub_cancel]
          cases k with
          | zero => intro h; exact e (by simpa using h)
          | succ k => simpa using (h4 (k + 1) x hx).1 hx5 (by omega)
        · cases j with
          | zero =>
            simp at hx; subst hx
            rcases h0 with h | ⟨h, h'⟩
            · exact .inl h
            · exact .inr ⟨h', .inl h⟩
          | succ j =>
            simp only [List.getElem?_cons_succ] at hx
            rcases (h4 j x hx).2 hx5 with h | ⟨h, h' | ⟨i, hi, h'⟩⟩
            · exact .inl h
            · exact .inr ⟨h, .inl h'⟩
            · exact .inr ⟨h, .inr ⟨i + 1, by omega, by simpa using h'⟩⟩

/-- what the program asks of each part -/
def partAt (s : List Nat) (i : Nat) : Prop := (parts s).getD i [] ≠ [] ∧ ∀ c ∈ (parts s).getD i [], okC (decide (i ≠ 0)) c

theorem tagOk_parts {s : List Nat} : tagOk s ↔ s.length ≤ 35 ∧ ∀ i, i < (parts s).length → partAt s i := by
  have h1 : tagOk s ↔ s.length ≤ 35 ∧ goodI false true s := by
    constructor
    · rintro ⟨a1, a2, a3, a4, a5⟩
      refine ⟨a2, fun h => by subst h; simp at a1, fun _ => a3, fun _ => a4, fun j c hc => ⟨fun h5 hj => ((a5 j c hc).1 h5).2, fun h5 => ?_⟩⟩
      rcases (a5 j c hc).2 h5 with h | ⟨h, h'⟩
      · exact .inl h
      · exact .inr ⟨h, .inr h'⟩
    · rintro ⟨a2, b1, b2, b3, b4⟩
      have hne : s ≠ [] := fun h => by have := b1 h; cases this
      refine ⟨List.length_pos_iff.2 hne, a2, b2 rfl, b3 hne, fun j c hc => ⟨fun h5 => ?_, fun h5 => ?_⟩⟩
      · have hj : 1 ≤ j := by
          cases j with
          | zero => exact absurd (hc.trans (by rw [h5])) (b2 rfl)
          | succ j => omega
        exact ⟨hj, (b4 j c hc).1 h5 hj⟩
      · rcases (b4 j c hc).2 h5 with h | ⟨h, h' | h'⟩
        · exact .inl h
        · cases h'
        · exact .inr ⟨h, h'⟩
  rw [h1, goodI_aut, ← goodP_aut]
  obtain ⟨p, ps, hp⟩ : ∃ p ps, parts s = p :: ps := by
    cases h : parts s with
    | nil => exact absurd h (parts_ne s)
    | cons p ps => exact ⟨p, ps, rfl⟩
  refine and_congr_right fun _ => ?_
  unfold partAt
  rw [hp]
  constructor
  · rintro ⟨a, b, c⟩ i hi
    cases i with
    | zero => exact ⟨a rfl, b⟩
    | succ i =>
      have hm : ps.getD i [] ∈ ps := by
        have : i < ps.length := by simpa using hi
        rw [List.getD_eq_getElem?_getD, List.getElem?_eq_getElem this]; exact List.getElem_mem this
      exact c _ hm
  · intro h
    refine ⟨fun _ => (h 0 (by simp)).1, (h 0 (by simp)).2, fun q hq => ?_⟩
    obtain ⟨i, hi, rfl⟩ := List.mem_iff_getElem.1 (show q ∈ ps from hq)
    have := h (i + 1) (by simpa using hi)
    rw [List.getD_cons_succ, List.getD_eq_getElem?_getD, List.getElem?_eq_getElem hi] at this
    exact this
end Go.Mir
namespace Go.Mir
open Go Go.Proofs
set_option maxRecDepth 4000
set_option maxHeartbeats 8000000

theorem parts_small : ∀ {l : List Nat} {p : List Nat}, p ∈ parts l → p.length ≤ l.length
  | [], p, h => by simp [parts] at h; simp [h]
  | c :: l, p, h => by
    simp only [parts] at h
    split at h
    · rcases List.mem_cons.1 h with rfl | h
      · simp
      · exact Nat.le_succ_of_le (parts_small h)
    · rcases List.mem_cons.1 h with rfl | h
      · simp only [List.length_cons]
        have hne := parts_ne l
        have : (parts l).headD [] ∈ parts l := by
          cases hp : parts l with
          | nil => exact absurd hp hne
          | cons a b => simp
        exact Nat.succ_le_succ (parts_small this)
      · exact Nat.le_succ_of_le (parts_small (List.mem_of_mem_tail h))

theorem okC_bad {f : Bool} {c : Nat} (h1 : ¬ (97 ≤ c ∧ c ≤ 122)) (h2 : f = false ∨ digitB c = false) : ¬ okC f c := by
  rintro (h | ⟨h, h'⟩)
  · exact h1 (by simpa [smallB] using h)
  · rcases h2 with h2 | h2
    · rw [h2] at h; cases h
    · rw [h2] at h'; cases h'

theorem tag_ok {s : List Nat} {h : T O} {n : Nat} (hl : s.length ≤ 900000) : Fn env0 88 [.str s] h n (fun v h' n' => v = .bool (tagB s) ∧ Gro h n h' n') := by
  refine Fn.mk fn88 rfl fz88 (by simp) fun Q cs K => ?_
  simp (maxSteps := 2000000) (disch := first | omega | assumption) only [↓mCode, ↓mOps, mAll, seval, vPtr, ite_ne, wrap_i64, boundN_int, fn88, Tryz.f88, List.map_nil, List.map_cons]
  refine (split_ok hl).call e0_hook e0_subs ?_
  rintro v h1 n1 ⟨⟨id, k, hv⟩, S, G⟩
  have s_len : ∀ {e : Nat} {k : V → Out}, lenIn h1 (.slice e) v k = k (.int .i64 ((parts s).length : Int)) := S.len
  subst hv
  have hcell : ∀ j, j < (parts s).length → ∀ {k : V → Out}, cellAt h1 id (0 + j * 1) k = k (.str ((parts s).getD j [])) := fun j hj k => by
    cases S with
    | slice _ _ _ _ _ _ hlo C => exact C.at (j := j) (by omega) (by omega)
  simp only [Nat.zero_add, Nat.mul_one] at hcell
  have hfew : (parts s).length ≤ s.length + 1 := by have := parts_len s; have := List.count_le_length (a := 45) (l := s); omega
  have hnotT : ∀ i, i < (parts s).length → ¬ partAt s i → tagB s = false := fun i hi hp => tagB_f fun h => hp ((tagOk_parts.1 h).2 i hi)
  simp (maxSteps := 2000000) (disch := first | omega | assumption) only [↓mCode, ↓mOps, mAll, seval, vPtr, ite_ne, wrap_i64, boundN_int, fn88, Tryz.f88, s_len]
  refine W_loopE (fun q regs h' n' => ∃ i : Nat, q = (parts s).length - i ∧ i ≤ (parts s).length ∧ regs.get 0 = some (.str s) ∧ regs.get 8 = some (.slice id 0 (parts s).length true k k) ∧ regs.get 9 = some (.int .i64 ((parts s).length : Int)) ∧ regs.get 10 = some (.int .i64 (i : Int)) ∧ (∀ j, j < i → partAt s j) ∧ h' = h1 ∧ n' = n1)
    (fun regs h' n' => regs.get 0 = some (.str s) ∧ (∀ j, j < (parts s).length → partAt s j) ∧ h' = h1 ∧ n' = n1)
    _ ⟨0, rfl, by omega, ?_, ?_, ?_, ?_, fun j hj => absurd hj (by omega), rfl, rfl⟩ ?_ ?_
  iterate 4
    · simp only [mBase, Nat.reduceEqDiff, Nat.reduceSub, reduceIte] <;> rfl
  · rintro tt hexit q regs h1 n1 ⟨i, rfl, hi, r0, r8, r9, r10, hx, rfl, rfl⟩ IH
    by_cases c1 : i < (parts s).length
    · have c1' : (i : Int) < ((parts s).length : Int) := by omega
      have hc : ∀ {kk : V → Out}, cellAt h1 id i kk = kk (.str ((parts s).getD i [])) := fun {kk} => hcell i c1
      have hps : (parts s).getD i [] ∈ parts s := by rw [List.getD_eq_getElem?_getD, List.getElem?_eq_getElem c1]; exact List.getElem_mem c1
      have hpl := parts_small hps
      have hpa : partAt s i ↔ (parts s).getD i [] ≠ [] ∧ ∀ c ∈ (parts s).getD i [], okC (decide (i ≠ 0)) c := Iff.rfl
      have hno := hnotT i c1
      generalize (parts s).getD i [] = p at *
      by_cases e : p = []
      · have e' : (p = []) = True := eq_true e
        simp (maxSteps := 2000000) (disch := first | omega | assumption) only [↓mCode, ↓mOps, mAll, seval, vPtr, ite_ne, wrap_i64, boundN_int, fn88, Tryz.f88, r0, r8, r9, r10, c1', hc, e', Nat.mul_one, Nat.zero_add, List.map_nil]
        exact K _ _ _ ⟨by rw [hno fun h => (hpa.1 h).1 e], G⟩
      have e' : (p = []) = False := eq_false e
      simp (maxSteps := 2000000) (disch := first | omega | assumption) only [↓mCode, ↓mOps, mAll, seval, vPtr, ite_ne, wrap_i64, boundN_int, fn88, Tryz.f88, r0, r8, r9, r10, c1', hc, e', Nat.mul_one, Nat.zero_add, List.map_nil]
      refine W_loopE (fun q regs h' n' => ∃ j : Nat, q = p.length - j ∧ j ≤ p.length ∧ regs.get 0 = some (.str s) ∧ regs.get 8 = some (.slice id 0 (parts s).length true k k) ∧ regs.get 9 = some (.int .i64 ((parts s).length : Int)) ∧ regs.get 10 = some (.int .i64 (i : Int)) ∧
          regs.get 3 = some (.int .i64 (i : Int)) ∧ regs.get 4 = some (.str p) ∧ regs.get 18 = some (.int .i64 (p.length : Int)) ∧ regs.get 19 = some (.int .i64 (j : Int)) ∧ (∀ l c, l < j → p[l]? = some c → okC (decide (i ≠ 0)) c) ∧ h' = h1 ∧ n' = n1)
        (fun regs h' n' => regs.get 0 = some (.str s) ∧ regs.get 8 = some (.slice id 0 (parts s).length true k k) ∧ regs.get 9 = some (.int .i64 ((parts s).length : Int)) ∧ regs.get 10 = some (.int .i64 (i : Int)) ∧ (∀ c ∈ p, okC (decide (i ≠ 0)) c) ∧ h' = h1 ∧ n' = n1)
        _ ⟨0, rfl, by omega, ?_, ?_, ?_, ?_, ?_, ?_, ?_, ?_, fun l c hl => absurd hl (by omega), rfl, rfl⟩ ?_ ?_
      iterate 8
        · simp only [mBase, Nat.reduceEqDiff, Nat.reduceSub, reduceIte, r0, r8, r9, r10] <;> rfl
      · rintro tt2 hexit2 q2 regs h1 n1 ⟨j, rfl, hj, r0, r8, r9, r10, r3, r4, r18, r19, hx2, rfl, rfl⟩ IH2
        by_cases c2 : j < p.length
        · have c2' : (j : Int) < (p.length : Int) := by omega
          obtain ⟨c, hcc⟩ : ∃ x, p[j]? = some x := ⟨_, List.getElem?_eq_getElem c2⟩
          have hmem : c ∈ p := List.mem_of_getElem? hcc
          have step : okC (decide (i ≠ 0)) c → ∀ l x, l < j + 1 → p[l]? = some x → okC (decide (i ≠ 0)) x := fun hg l x hl hlx => by
            by_cases e : l = j
            · subst e; rw [hcc] at hlx; cases hlx; exact hg
            · exact hx2 l x (by omega) hlx
          by_cases sm : 97 ≤ c ∧ c ≤ 122
          · have f1 : ((c : Int) < 97) = False := eq_false (by omega)
            have f2 : ((c : Int) > 122) = False := eq_false (by omega)
            simp (maxSteps := 2000000) (disch := first | omega | assumption) only [↓mCode, ↓mOps, mAll, seval, vPtr, ite_ne, wrap_i64, boundN_int, fn88, Tryz.f88, r0, r3, r4, r8, r9, r10, r18, r19, c2', hcc, f1, f2]
            exact IH2 (p.length - (j + 1)) _ _ _ (by omega) ⟨j + 1, rfl, by omega, by simp only [mBase, Nat.reduceEqDiff, Nat.reduceSub, reduceIte, r0], by simp only [mBase, Nat.reduceEqDiff, Nat.reduceSub, reduceIte, r8], by simp only [mBase, Nat.reduceEqDiff, Nat.reduceSub, reduceIte, r9], by simp only [mBase, Nat.reduceEqDiff, Nat.reduceSub, reduceIte, r10], by simp only [mBase, Nat.reduceEqDiff, Nat.reduceSub, reduceIte, r3], by simp only [mBase, Nat.reduceEqDiff, Nat.reduceSub, reduceIte, r4], by simp only [mBase, Nat.reduceEqDiff, Nat.reduceSub, reduceIte, r18], by simp only [mBase, Nat.reduceEqDiff, Nat.reduceSub, reduceIte, r19] <;> rfl, step (.inl (by simpa [smallB] using sm)), rfl, rfl⟩
          · rcases (by omega : c < 97 ∨ (97 ≤ c ∧ 122 < c)) with z | z
            all_goals
              first | (have f1 : ((c : Int) < 97) = True := eq_true (by omega)) | (have f1 : ((c : Int) < 97) = False := eq_false (by omega))
              first | (have f2 : ((c : Int) > 122) = True := eq_true (by omega)) | (have f2 : ((c : Int) > 122) = False := eq_false (by omega))
              by_cases i0 : i = 0
              · have i0' : ((i : Int) = 0) = True := eq_true (by omega)
                simp (maxSteps := 2000000) (disch := first | omega | assumption) only [↓mCode, ↓mOps, mAll, seval, vPtr, ite_ne, wrap_i64, boundN_int, fn88, Tryz.f88, r0, r3, r4, r8, r9, r10, r18, r19, c2', hcc, f1, f2, i0']
                exact K _ _ _ ⟨by rw [hno fun h => okC_bad sm (.inl (by simp [i0])) ((hpa.1 h).2 c hmem)], G⟩
              · have i0' : ((i : Int) = 0) = False := eq_false (by omega)
                simp (maxSteps := 2000000) (disch := first | omega | assumption) only [↓mCode, ↓mOps, mAll, seval, vPtr, ite_ne, wrap_i64, boundN_int, fn88, Tryz.f88, r0, r3, r4, r8, r9, r10, r18, r19, c2', hcc, f1, f2, i0']
                refine digitT_ok.call e0_hook e0_subs ?_
                rintro _ h1 n1 ⟨rfl, rfl, rfl⟩
                by_cases b2 : digitB c = true
                · simp (maxSteps := 2000000) (disch := first | omega | assumption) only [↓mCode, ↓mOps, mAll, seval, vPtr, ite_ne, wrap_i64, boundN_int, fn88, Tryz.f88, r0, r3, r4, r8, r9, r10, r18, r19, c2', hcc, b2, Bool.not_true]
                  exact IH2 (p.length - (j + 1)) _ _ _ (by omega) ⟨j + 1, rfl, by omega, by simp only [mBase, Nat.reduceEqDiff, Nat.reduceSub, reduceIte, r0], by simp only [mBase, Nat.reduceEqDiff, Nat.reduceSub, reduceIte, r8], by simp only [mBase, Nat.reduceEqDiff, Nat.reduceSub, reduceIte, r9], by simp only [mBase, Nat.reduceEqDiff, Nat.reduceSub, reduceIte, r10], by simp only [mBase, Nat.reduceEqDiff, Nat.reduceSub, reduceIte, r3], by simp only [mBase, Nat.reduceEqDiff, Nat.reduceSub, reduceIte, r4], by simp only [mBase, Nat.reduceEqDiff, Nat.reduceSub, reduceIte, r18], by simp only [mBase, Nat.reduceEqDiff, Nat.reduceSub, reduceIte, r19] <;> rfl, step (.inr ⟨by simp [i0], b2⟩), rfl, rfl⟩
                · have b2' : digitB c = false := by simpa using b2
                  simp (maxSteps := 2000000) (disch := first | omega | assumption) only [↓mCode, ↓mOps, mAll, seval, vPtr, ite_ne, wrap_i64, boundN_int, fn88, Tryz.f88, r0, r3, r4, r8, r9, r10, r18, r19, c2', hcc, b2', Bool.not_false]
                  exact K _ _ _ ⟨by rw [hno fun h => okC_bad sm (.inr b2') ((hpa.1 h).2 c hmem)], G⟩
        · have c2' : ¬ (j : Int) < (p.length : Int) := by omega
          simp (maxSteps := 2000000) (disch := first | omega | assumption) only [↓mCode, ↓mOps, mAll, seval, vPtr, ite_ne, wrap_i64, boundN_int, fn88, Tryz.f88, r0, r3, r4, r8, r9, r10, r18, r19, c2']
          refine hexit2 _ _ _ ⟨by simp only [mBase, Nat.reduceEqDiff, Nat.reduceSub, reduceIte, r0], by simp only [mBase, Nat.reduceEqDiff, Nat.reduceSub, reduceIte, r8], by simp only [mBase, Nat.reduceEqDiff, Nat.reduceSub, reduceIte, r9], by simp only [mBase, Nat.reduceEqDiff, Nat.reduceSub, reduceIte, r10], fun c hc => ?_, rfl, rfl⟩
          obtain ⟨l, hl2, rfl⟩ := List.mem_iff_getElem.1 hc
          exact hx2 l _ (by omega) (List.getElem?_eq_getElem hl2)
      · rintro regs h1 n1 ⟨r0, r8, r9, r10, hg, rfl, rfl⟩
        simp (maxSteps := 2000000) (disch := first | omega | assumption) only [↓mCode, ↓mOps, mAll, seval, vPtr, ite_ne, wrap_i64, boundN_int, fn88, Tryz.f88, r0, r8, r9, r10]
        refine IH ((parts s).length - (i + 1)) _ _ _ (by omega) ⟨i + 1, rfl, by omega, ?_, ?_, ?_, ?_, fun j hj => ?_, rfl, rfl⟩
        iterate 4
          · simp only [mBase, Nat.reduceEqDiff, Nat.reduceSub, reduceIte, r0, r8, r9, r10] <;> rfl
        · by_cases ej : j = i
          · subst ej; exact hpa.2 ⟨e, hg⟩
          · exact hx j (by omega)
    · have c1' : ¬ (i : Int) < ((parts s).length : Int) := by omega
      simp (maxSteps := 2000000) (disch := first | omega | assumption) only [↓mCode, ↓mOps, mAll, seval, vPtr, ite_ne, wrap_i64, boundN_int, fn88, Tryz.f88, r0, r8, r9, r10, c1']
      refine hexit _ _ _ ⟨by simp only [mBase, Nat.reduceEqDiff, Nat.reduceSub, reduceIte, r0], fun j hj => hx j (by omega), rfl, rfl⟩
  · rintro regs h' n' ⟨r0, hg, rfl, rfl⟩
    simp (maxSteps := 2000000) (disch := first | omega | assumption) only [↓mCode, ↓mOps, mAll, seval, vPtr, ite_ne, wrap_i64, boundN_int, fn88, Tryz.f88, r0]
    refine K _ _ _ ⟨?_, G⟩
    congr 1
    by_cases e : s.length ≤ 35
    · rw [tagB_t (tagOk_parts.2 ⟨e, hg⟩), decide_eq_true]; omega
    · rw [tagB_f fun h => e (tagOk_parts.1 h).1, decide_eq_false]; omega
end Go.Mir
namespace Go.Mir
open Go Go.Proofs
set_option maxRecDepth 4000
set_option maxHeartbeats 16000000

theorem kind4_ok {x : Tm} {h : T O} {n : Nat} (hb : ∀ c ∈ x.2.1, c < 256) (hl : x.2.1.length ≤ 900000) (hl2 : x.2.2.length ≤ 900000) : Fn env0 87 [tv x] h n (fun v h' n' => v = .bool (valB x.2.1 && tagB x.2.2) ∧ Gro h n h' n') := by
  obtain ⟨k, s, e⟩ := x
  have hl' : s.length ≤ 900000 := hl
  refine Fn.mk fn87 rfl fz87 (by simp) fun Q cs K => ?_
  simp (maxSteps := 2000000) (disch := first | omega | assumption) only [↓mCode, ↓mOps, mAll, seval, vPtr, ite_ne, wrap_i64, boundN_int, fn87, Tryz.f87, tv]
  refine (value_ok hb (by omega)).call e0_hook e0_subs ?_
  rintro _ h1 n1 ⟨rfl, G⟩
  have G1 : Gro h n h1 n1 := ⟨by have := G.1; omega, fun j hj => by rw [G.2 j (by omega), T.get_put, if_neg (by omega)]⟩
  have gn : h1.get n = some (.cells (ofT [V.int .i64 k, V.str s, V.str e]) 3 3) := by rw [G.2 n (by omega), T.get_put, if_pos rfl]
  have ce : ∀ {k : V → Out}, cellAt h1 n 2 k = k (.str e) := fun {k} => by rw [cellAt_eq, gn]; rfl
  by_cases b : valB s = true
  · simp (maxSteps := 2000000) (disch := first | omega | assumption) only [↓mCode, ↓mOps, mAll, seval, vPtr, ite_ne, wrap_i64, boundN_int, fn87, Tryz.f87, b, ce]
    refine (tag_ok hl2).call e0_hook e0_subs ?_
    rintro _ h2 n2 ⟨rfl, G2⟩
    simp (maxSteps := 2000000) (disch := first | omega | assumption) only [↓mCode, ↓mOps, mAll, seval, vPtr, ite_ne, wrap_i64, boundN_int, fn87, Tryz.f87]
    exact K _ _ _ ⟨by rw [b, Bool.true_and], G1.trans G2⟩
  · have b' : valB s = false := by simpa using b
    simp (maxSteps := 2000000) (disch := first | omega | assumption) only [↓mCode, ↓mOps, mAll, seval, vPtr, ite_ne, wrap_i64, boundN_int, fn87, Tryz.f87, b']
    exact K _ _ _ ⟨by rw [b', Bool.false_and], G1⟩

def KS : List (V × V × Nat) := [(.int .i64 1, .func 81 [] [], 0), (.int .i64 2, .func 83 [] [], 1), (.int .i64 3, .func 85 [] [], 2), (.int .i64 4, .func 87 [] [], 3), (.int .i64 5, .func 89 [] [], 4)]

theorem kinds_ok {h : T O} {n : Nat} : Fn env0 40 [] h n (fun v h' n' => v = .map n ∧ h'.get n = some (.map KS 5) ∧ Gro h n h' n' ∧ n' = n + 1) := by
  refine Fn.mk fn40 rfl fz40 (by simp) fun Q cs K => ?_
  simp (maxSteps := 2000000) (disch := first | omega | assumption) only [↓mCode, ↓mOps, mAll, seval, vPtr, ite_ne, wrap_i64, boundN_int, fn40, Tryz.f40, mMap, List.nil_append, List.cons_append]
  refine K _ _ _ ⟨rfl, by simp only [T.get_put, if_pos]; rfl, ⟨by omega, fun j hj => ?_⟩, rfl⟩
  simp only [T.get_put]
  repeat rw [if_neg (by omega)]

/-- may a term be? -/
theorem mayP_ok {x : Tm} {h : T O} {n : Nat} (hb : ∀ c ∈ x.2.1, c < 256) (hl : x.2.1.length ≤ 900000) (hb2 : ∀ c ∈ x.2.2, c < 256) (hl2 : x.2.2.length ≤ 900000) : Fn env0 22 [tv x] h n (fun v h' n' => v = .bool (mayT x) ∧ Gro h n h' n') := by
  obtain ⟨k, s, e⟩ := x
  refine Fn.mk fn22 rfl fz22 (by simp) fun Q cs K => ?_
  have GB : Gro h n (h.put n (some (.cells (ofT [V.int .i64 k, V.str s, V.str e]) 3 3))) (n + 1) := (Gro.refl h n).put _
  simp (maxSteps := 2000000) (disch := first | omega | assumption) only [↓mCode, ↓mOps, mAll, seval, vPtr, ite_ne, wrap_i64, boundN_int, fn22, Tryz.f22, mMap, tv]
  refine W_draw sr22_1 ss22_1 ?_ ?_
  · exact sk22_1
  simp (maxSteps := 2000000) (disch := first | omega | assumption) only [↓mCode, ↓mOps, mAll, seval, vPtr, ite_ne, wrap_i64, boundN_int, fn22, Tryz.f22, mMap, tv]
  refine kinds_ok.call e0_hook e0_subs ?_
  rintro _ h1 n1 ⟨rfl, km, G, rfl⟩
  have gn : h1.get n = some (.cells (ofT [V.int .i64 k, V.str s, V.str e]) 3 3) := by rw [G.2 n (by omega), T.get_put, if_pos rfl]
  have G1 := GB.trans G
  have c0 : ∀ {k' : V → Out}, cellAt h1 n 0 k' = k' (.int .i64 k) := fun {k'} => by rw [cellAt_eq, gn]; rfl
  have cA : ∀ {k' : List V → Out}, cellsAt h1 n 0 3 k' = k' [.int .i64 k, .str s, .str e] := fun {k'} => by rw [cellsAt_eq, gn]; rfl
  rcases (by omega : k = 1 ∨ k = 2 ∨ k = 3 ∨ k = 4 ∨ k = 5 ∨ (k ≠ 1 ∧ k ≠ 2 ∧ k ≠ 3 ∧ k ≠ 4 ∧ k ≠ 5)) with z | z | z | z | z | z
  · have mk : mayT (k, s, e) = (iriB s && decide (e = [])) := by
      show (if k = 1 then _ else if k = 2 then _ else if k = 3 then _ else if k = 4 then _ else if k = 5 then _ else _) = _
      rw [if_pos z]
    subst z
    simp (maxSteps := 2000000) (disch := first | omega | assumption) only [↓mCode, ↓mOps, mAll, seval, vPtr, ite_ne, wrap_i64, boundN_int, fn22, Tryz.f22, mMap, gn, km, KS, decide_true, decide_false, List.append_nil, List.nil_append, funNe ty74, cA, c0]
    refine (kind1_ok (x := (1, s, e)) hb (Nat.le_trans hl (by omega))).call e0_hook e0_subs ?_
    rintro _ h2 n2 ⟨rfl, G2⟩
    simp (maxSteps := 2000000) (disch := first | omega | assumption) only [↓mCode, ↓mOps, mAll, seval, vPtr, ite_ne, wrap_i64, boundN_int, fn22, Tryz.f22, mMap]
    exact K _ _ _ ⟨by rw [mk], G1.trans G2⟩
  · have mk : mayT (k, s, e) = (word64 s && decide (e = [])) := by
      show (if k = 1 then _ else if k = 2 then _ else if k = 3 then _ else if k = 4 then _ else if k = 5 then _ else _) = _
      rw [if_neg (by omega), if_pos z]
    subst z
    simp (maxSteps := 2000000) (disch := first | omega | assumption) only [↓mCode, ↓mOps, mAll, seval, vPtr, ite_ne, wrap_i64, boundN_int, fn22, Tryz.f22, mMap, gn, km, KS, decide_true, decide_false, List.append_nil, List.nil_append, funNe ty74, cA, c0]
    refine (kind2_ok (x := (2, s, e)) hb hl).call e0_hook e0_subs ?_
    rintro _ h2 n2 ⟨rfl, G2⟩
    simp (maxSteps := 2000000) (disch := first | omega | assumption) only [↓mCode, ↓mOps, mAll, seval, vPtr, ite_ne, wrap_i64, boundN_int, fn22, Tryz.f22, mMap]
    exact K _ _ _ ⟨by rw [mk], G1.trans G2⟩
  · have mk : mayT (k, s, e) = (valB s && decide (e = [])) := by
      show (if k = 1 then _ else if k = 2 then _ else if k = 3 then _ else if k = 4 then _ else if k = 5 then _ else _) = _
      rw [if_neg (by omega), if_neg (by omega), if_pos z]
    subst z
    simp (maxSteps := 2000000) (disch := first | omega | assumption) only [↓mCode, ↓mOps, mAll, seval, vPtr, ite_ne, wrap_i64, boundN_int, fn22, Tryz.f22, mMap, gn, km, KS, decide_true, decide_false, List.append_nil, List.nil_append, funNe ty74, cA, c0]
    refine (kind3_ok (x := (3, s, e)) hb hl).call e0_hook e0_subs ?_
    rintro _ h2 n2 ⟨rfl, G2⟩
    simp (maxSteps := 2000000) (disch := first | omega | assumption) only [↓mCode, ↓mOps, mAll, seval, vPtr, ite_ne, wrap_i64, boundN_int, fn22, Tryz.f22, mMap]
    exact K _ _ _ ⟨by rw [mk], G1.trans G2⟩
  · have mk : mayT (k, s, e) = (valB s && tagB e) := by
      show (if k = 1 then _ else if k = 2 then _ else if k = 3 then _ else if k = 4 then _ else if k = 5 then _ else _) = _
      rw [if_neg (by omega), if_neg (by omega), if_neg (by omega), if_pos z]
    subst z
    simp (maxSteps := 2000000) (disch := first | omega | assumption) only [↓mCode, ↓mOps, mAll, seval, vPtr, ite_ne, wrap_i64, boundN_int, fn22, Tryz.f22, mMap, gn, km, KS, decide_true, decide_false, List.append_nil, List.nil_append, funNe ty74, cA, c0]
    refine (kind4_ok (x := (4, s, e)) hb hl hl2).call e0_hook e0_subs ?_
    rintro _ h2 n2 ⟨rfl, G2⟩
    simp (maxSteps := 2000000) (disch := first | omega | assumption) only [↓mCode, ↓mOps, mAll, seval, vPtr, ite_ne, wrap_i64, boundN_int, fn22, Tryz.f22, mMap]
    exact K _ _ _ ⟨by rw [mk], G1.trans G2⟩
  · have mk : mayT (k, s, e) = (valB s && (iriB e && decide (e ≠ xsdL))) := by
      show (if k = 1 then _ else if k = 2 then _ else if k = 3 then _ else if k = 4 then _ else if k = 5 then _ else _) = _
      rw [if_neg (by omega), if_neg (by omega), if_neg (by omega), if_neg (by omega), if_pos z]
    subst z
    simp (maxSteps := 2000000) (disch := first | omega | assumption) only [↓mCode, ↓mOps, mAll, seval, vPtr, ite_ne, wrap_i64, boundN_int, fn22, Tryz.f22, mMap, gn, km, KS, decide_true, decide_false, List.append_nil, List.nil_append, funNe ty74, cA, c0]
    refine (kind5_ok (x := (5, s, e)) hb hl hb2 hl2).call e0_hook e0_subs ?_
    rintro _ h2 n2 ⟨rfl, G2⟩
    simp (maxSteps := 2000000) (disch := first | omega | assumption) only [↓mCode, ↓mOps, mAll, seval, vPtr, ite_ne, wrap_i64, boundN_int, fn22, Tryz.f22, mMap]
    exact K _ _ _ ⟨by rw [mk], G1.trans G2⟩
  · have mk : mayT (k, s, e) = false := by
      show (if k = 1 then _ else if k = 2 then _ else if k = 3 then _ else if k = 4 then _ else if k = 5 then _ else _) = _
      rw [if_neg (by omega), if_neg (by omega), if_neg (by omega), if_neg (by omega), if_neg (by omega)]
    have q1 : (k = 1) = False := eq_false (by omega)
    have q2 : (k = 2) = False := eq_false (by omega)
    have q3 : (k = 3) = False := eq_false (by omega)
    have q4 : (k = 4) = False := eq_false (by omega)
    have q5 : (k = 5) = False := eq_false (by omega)
    simp (maxSteps := 2000000) (disch := first | omega | assumption) only [↓mCode, ↓mOps, mAll, seval, vPtr, ite_ne, wrap_i64, boundN_int, fn22, Tryz.f22, mMap, gn, km, KS, q1, q2, q3, q4, q5, decide_true, decide_false, funNe0 ty74, cA, c0]
    exact K _ _ _ ⟨by rw [mk], G1⟩
end Go.Mir
