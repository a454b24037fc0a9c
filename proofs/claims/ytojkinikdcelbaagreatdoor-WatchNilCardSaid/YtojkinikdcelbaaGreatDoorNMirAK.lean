/- The small machine against the model: the orders of a drawn region. No statement of the program stands here. -/
import Derived.Test.YtojkinikdcelbaaGreatDoorNMirAJ
set_option linter.unusedSimpArgs false
set_option linter.unusedVariables false
set_option linter.defProp false
namespace Go.Mir
open Go Go.RowKit

structure LinExt (all : List Oper) (L : List Nat) : Prop where
  nodup : L.Nodup
  lt : ∀ i ∈ L, i < all.length
  mem : ∀ i, i < all.length → i ∈ L
  edge : ∀ A i B, L = A ++ i :: B → ∀ o, all[i]? = some o → ∀ e ∈ o.after.toList, isAny e.ground = true → e.on ∈ A

/-- j stands before i -/
def Prec (L : List Nat) (j i : Nat) : Prop := ∀ A B, L = A ++ i :: B → j ∈ A

theorem Prec.trans {L : List Nat} {a b c : Nat} (h1 : Prec L a b) (h2 : Prec L b c) : Prec L a c := fun A B h => by
  have hb := h2 A B h
  obtain ⟨A1, A2, rfl⟩ := List.append_of_mem hb
  have := h1 A1 (A2 ++ c :: B) (by simpa using h)
  simp [this]

theorem tb_eq (m j : Nat) : tb m j = m.testBit j := by
  show Nat.beq (1 &&& (m >>> j)) 1 = ((1 &&& (m >>> j)) != 0)
  have h : 1 &&& (m >>> j) = (m >>> j) % 2 := by rw [Nat.and_comm, Nat.and_one_is_mod]
  rw [h]
  rcases Nat.mod_two_eq_zero_or_one (m >>> j) with h | h <;> rw [h] <;> rfl

theorem nthD_eq (l : List Nat) (i : Nat) : nthD l i = l[i]?.getD 0 := by
  unfold nthD
  rw [nth_eq]
  cases l[i]? <;> rfl

theorem edgeMask_ok {all : List Oper} {L : List Nat} (HL : LinExt all L) {ms : List Nat} (hms : ∀ k j, (nthD ms k).testBit j = true → Prec L j k) {i : Nat} {o : Oper} (ho : all[i]? = some o) :
    ∀ es : List Edge, (∀ e ∈ es, e ∈ o.after.toList) → ∀ j, (edgeMask ms es).testBit j = true → Prec L j i
  | [], _, j, h => by
    have : edgeMask ms [] = 0 := rfl
    rw [this] at h; simp at h
  | e :: es, hin, j, h => by
    have hrec : edgeMask ms (e :: es) = Bool.rec (motive := fun _ => Nat) (edgeMask ms es) (Nat.lor (Nat.lor (Nat.pow 2 e.on) (nthD ms e.on)) (edgeMask ms es)) (isAny e.ground) := rfl
    rw [hrec] at h
    cases hb : isAny e.ground with
    | false =>
      rw [hb] at h
      exact edgeMask_ok HL hms ho es (fun e' he => hin e' (by simp [he])) j h
    | true =>
      rw [hb] at h
      have h : ((2 ^ e.on ||| nthD ms e.on) ||| edgeMask ms es).testBit j = true := h
      have hp : Prec L e.on i := fun A B hL => HL.edge A i B hL o ho e (hin e (by simp)) hb
      rw [Nat.testBit_or, Nat.testBit_or, Bool.or_eq_true, Bool.or_eq_true] at h
      rcases h with (h | h) | h
      · rw [Nat.testBit_two_pow] at h
        have : e.on = j := by simpa using h
        subst this
        exact hp
      · exact (hms _ _ h).trans hp
      · exact edgeMask_ok HL hms ho es (fun e' he => hin e' (by simp [he])) j h

theorem masks_go {all : List Oper} {L : List Nat} (HL : LinExt all L) : ∀ (ops pre : List Oper) (acc : List Nat), all = pre ++ ops → acc.length = pre.length → (∀ k j, (nthD acc k).testBit j = true → Prec L j k) →
    ∀ k j, (nthD (List.rec (motive := fun _ => List Nat → List Nat) (fun acc => acc) (fun o _ ih acc => fNat (edgeMask acc o.after.toList) fun m => spine (acc ++ [m]) ih) ops acc) k).testBit j = true → Prec L j k
  | [], pre, acc, _, _, h => h
  | o :: ops, pre, acc, hall, hlen, h => by
    intro k j hk
    have hrec : (List.rec (motive := fun _ => List Nat → List Nat) (fun acc => acc) (fun o _ ih acc => fNat (edgeMask acc o.after.toList) fun m => spine (acc ++ [m]) ih) (o :: ops) acc) =
      List.rec (motive := fun _ => List Nat → List Nat) (fun acc => acc) (fun o _ ih acc => fNat (edgeMask acc o.after.toList) fun m => spine (acc ++ [m]) ih) ops (acc ++ [edgeMask acc o.after.toList]) := by
      show fNat (edgeMask acc o.after.toList) (fun m => spine (acc ++ [m]) _) = _
      rw [fNat_eq, spine_eq]
    rw [hrec] at hk
    refine masks_go HL ops (pre ++ [o]) _ (by simp [hall]) (by simp [hlen]) ?_ k j hk
    intro k j hk
    rw [nthD_eq, List.getElem?_append] at hk
    split at hk
    · exact h k j (by rw [nthD_eq]; exact hk)
    · rename_i hge
      by_cases he : k = acc.length
      · subst he
        simp only [Nat.sub_self, List.getElem?_cons_zero, Option.getD_some] at hk
        exact edgeMask_ok HL h (i := acc.length) (o := o) (by rw [hall, hlen]; simp) _ (fun e he => he) j hk
      · have : k - acc.length = (k - acc.length - 1) + 1 := by omega
        rw [this] at hk
        simp at hk

theorem masks_ok {all : List Oper} {L : List Nat} (HL : LinExt all L) {i j : Nat} (h : tb (nthD (masks all) i) j = true) : Prec L j i := by
  rw [tb_eq] at h
  exact masks_go HL all [] [] rfl rfl (fun k j hk => by rw [nthD_eq] at hk; simp at hk) i j h

theorem memN_eq (l : List Nat) (a : Nat) : memN l a = true ↔ a ∈ l := by
  induction l with
  | nil => exact ⟨fun h => (by cases h), fun h => (by cases h)⟩
  | cons b l ih =>
    show or (Nat.beq a b) (memN l a) = true ↔ _
    rw [Bool.or_eq_true, ih, Nat.beq_eq]
    simp

theorem mem_rmN {l : List Nat} {a x : Nat} (h : x ∈ l) (hne : x ≠ a) : x ∈ rmN l a := by
  induction l with
  | nil => cases h
  | cons b l ih =>
    show x ∈ (Bool.rec (b :: rmN l a) (rmN l a) (Nat.beq a b) : List Nat)
    cases hb : Nat.beq a b with
    | true =>
      have := beq_of hb
      subst this
      cases h with
      | head => exact absurd rfl hne
      | tail _ h => exact ih h
    | false =>
      cases h with
      | head => simp
      | tail _ h => simp [ih h]

theorem mem_keepN {p : Nat → Bool} {l : List Nat} {x : Nat} : x ∈ keepN p l ↔ x ∈ l ∧ p x = true := by
  induction l with
  | nil => simp [keepN]
  | cons b l ih =>
    have : keepN p (b :: l) = Bool.rec (motive := fun _ => List Nat) (keepN p l) (b :: keepN p l) (p b) := rfl
    rw [this]
    cases hb : p b with
    | true => 
      simp only [List.mem_cons, ih]
      constructor
      · rintro (rfl | ⟨h1, h2⟩)
        · exact ⟨.inl rfl, hb⟩
        · exact ⟨.inr h1, h2⟩
      · rintro ⟨rfl | h1, h2⟩
        · exact .inl rfl
        · exact .inr ⟨h1, h2⟩
    | false =>
      simp only [List.mem_cons, ih]
      constructor
      · rintro ⟨h1, h2⟩; exact ⟨.inr h1, h2⟩
      · rintro ⟨rfl | h1, h2⟩
        · rw [hb] at h2; cases h2
        · exact ⟨h1, h2⟩

theorem isNilL_eq {l : List Nat} (h : isNilL l = true) : l = [] := by cases l with | nil => rfl | cons => cases h

theorem operandsL_mem {op : Op} (h : noSelect op = true) {x : Operand} (hx : x ∈ op.operands.toList) : x ∈ operandsL op := by
  cases op <;> simp only [Op.operands, operandsL] at hx ⊢ <;> first | exact hx | (simpa using hx) | skip
  case makeMap t r => cases r <;> simp_all [optL]
  case slice t x l hh m => cases l <;> cases hh <;> cases m <;> simp_all [optL]
  case call c => obtain ⟨f, args, ts⟩ := c; cases f <;> simp_all [callL, Call.operands]
  case go c => obtain ⟨f, args, ts⟩ := c; cases f <;> simp_all [callL, Call.operands]
  case defer c => cases h
  case select => cases h

theorem dstIs_eq {o : Oper} {t : Nat} : dstIs o t = true ↔ o.dst = some t := by
  unfold dstIs
  cases o.dst with
  | none => simp
  | some d => simp [Nat.beq_eq]

theorem wrOk_go {ms seen : List Nat} {i t : Nat} : ∀ (l : List Oper) (j0 : Nat),
    (List.rec (motive := fun _ => Nat → Bool) (fun _ => true) (fun o _ ih j => and (or (not (dstIs o t)) (or (and (memN seen j) (tb (nthD ms i) j)) (tb (nthD ms j) i))) (ih (Nat.succ j))) l j0 : Bool) = true →
    ∀ j o, l[j]? = some o → o.dst = some t → ((j0 + j) ∈ seen ∧ tb (nthD ms i) (j0 + j) = true) ∨ tb (nthD ms (j0 + j)) i = true
  | [], j0, _, j, o, h, _ => by simp at h
  | a :: l, j0, h, j, o, hj, hd => by
    have h := Bool.and_eq_true_iff.1 h
    cases j with
    | zero =>
      simp at hj; subst hj
      have h1 := h.1
      rw [dstIs_eq.2 hd] at h1
      have h1 : or (and (memN seen j0) (tb (nthD ms i) j0)) (tb (nthD ms j0) i) = true := by simpa using h1
      rcases Bool.or_eq_true_iff.1 h1 with h1 | h1
      · have h1 := Bool.and_eq_true_iff.1 h1
        exact .inl ⟨(memN_eq _ _).1 h1.1, h1.2⟩
      · exact .inr h1
    | succ j =>
      have := wrOk_go l (j0 + 1) h.2 j o (by simpa using hj) hd
      rw [show j0 + (j + 1) = j0 + 1 + j by omega]
      exact this

theorem opsOk_ok {all : List Oper} {ms seen : List Nat} {i : Nat} : ∀ {xs : List Operand}, opsOk all ms seen i xs = true → ∀ t, Operand.tmp t ∈ xs → ∀ (j : Nat) o, all[j]? = some o → o.dst = some t →
    (j ∈ seen ∧ tb (nthD ms i) j = true) ∨ tb (nthD ms j) i = true
  | [], _, t, h => by cases h
  | x :: xs, h, t, hin => by
    have h := Bool.and_eq_true_iff.1 h
    cases hin with
    | head => 
      intro j o ho hd
      have := wrOk_go all 0 h.1 j o ho hd
      simpa using this
    | tail _ hin => exact opsOk_ok h.2 t hin

theorem notIn_ok {d : Nat} : ∀ {xs : List Operand}, notIn d xs = true → Operand.tmp d ∉ xs
  | [], _, h => by cases h
  | x :: xs, h, hin => by
    have h := Bool.and_eq_true_iff.1 h
    cases hin with
    | head => have h1 := h.1; simp at h1
    | tail _ hin => exact notIn_ok h.2 hin

theorem allSel_ok : ∀ {l : List Oper}, allSel l = true → ∀ (i : Nat) o, l[i]? = some o → noSelect o.op = true
  | [], _, i, o, h => by simp at h
  | a :: l, h, i, o, hi => by
    have h : and (noSelect a.op) (allSel l) = true := h
    have h := Bool.and_eq_true_iff.1 h
    cases i with
    | zero => simp at hi; subst hi; exact h.1
    | succ i => exact allSel_ok h.2 i o (by simpa using hi)

theorem rdOk_go {ms : List Nat} {i d : Nat} : ∀ (l : List Oper) (x0 : Nat),
    (List.rec (motive := fun _ => Nat → Bool) (fun _ => true) (fun o _ ih x => and (or (notIn d (operandsL o.op)) (tb (nthD ms x) i)) (ih (Nat.succ x))) l x0 : Bool) = true →
    ∀ x o, l[x]? = some o → Operand.tmp d ∈ operandsL o.op → tb (nthD ms (x0 + x)) i = true
  | [], x0, _, x, o, h, _ => by simp at h
  | a :: l, x0, h, x, o, hx, hd => by
    have h := Bool.and_eq_true_iff.1 h
    cases x with
    | zero =>
      simp at hx; subst hx
      rcases Bool.or_eq_true_iff.1 h.1 with h1 | h1
      · exact absurd hd (notIn_ok h1)
      · exact h1
    | succ x =>
      have := rdOk_go l (x0 + 1) h.2 x o (by simpa using hx) hd
      rw [show x0 + (x + 1) = x0 + 1 + x by omega]
      exact this

theorem dstNone_ok {t : Nat} : ∀ {l : List Oper}, dstNone l t = true → ∀ o ∈ l, o.dst ≠ some t
  | [], _, o, h => by cases h
  | a :: l, h, o, hin => by
    have h : and (not (dstIs a t)) (dstNone l t) = true := h
    have h := Bool.and_eq_true_iff.1 h
    cases hin with
    | head => intro hd; rw [dstIs_eq.2 hd] at h; simp at h
    | tail _ hin => exact dstNone_ok h.2 o hin

theorem nodupD_ok : ∀ {l : List Oper}, nodupD l = true → ∀ (i j : Nat) a b d, l[i]? = some a → l[j]? = some b → a.dst = some d → b.dst = some d → i = j
  | [], _, i, j, a, b, d, h, _, _, _ => by simp at h
  | o :: l, h, i, j, a, b, d, hi, hj, ha, hb => by
    have h : and (match o.dst with | some d => dstNone l d | none => true) (nodupD l) = true := h
    have h := Bool.and_eq_true_iff.1 h
    cases i with
    | zero =>
      cases j with
      | zero => rfl
      | succ j =>
        simp at hi hj; subst hi
        have h1 := h.1
        rw [ha] at h1
        exact absurd hb (dstNone_ok h1 b (List.mem_of_getElem? hj))
    | succ i =>
      cases j with
      | zero =>
        simp at hi hj; subst hj
        have h1 := h.1
        rw [hb] at h1
        exact absurd ha (dstNone_ok h1 a (List.mem_of_getElem? hi))
      | succ j =>
        have := nodupD_ok h.2 i j a b d (by simpa using hi) (by simpa using hj) ha hb
        omega

theorem Prec.asymm {L : List Nat} (hn : L.Nodup) {a b : Nat} (h1 : Prec L a b) (h2 : Prec L b a) (hb : b ∈ L) : False := by
  obtain ⟨A, B, hL⟩ := List.append_of_mem hb
  have ha := h1 A B hL
  obtain ⟨A1, A2, rfl⟩ := List.append_of_mem ha
  have hb2 := h2 A1 (A2 ++ b :: B) (by simpa using hL)
  rw [hL] at hn
  have := List.nodup_append.1 hn
  exact this.2.2 b (by simp [hb2]) b (by simp) rfl

/-- what an operation of the region looks at is settled before it, or changes behind it -/
def Wr (all : List Oper) (L seen : List Nat) (i : Nat) : Prop := ∀ o, all[i]? = some o → 
  (∀ t, Operand.tmp t ∈ o.op.operands.toList → ∀ (j : Nat) oj, all[j]? = some oj → oj.dst = some t → (j ∈ seen ∧ Prec L j i) ∨ Prec L i j) ∧
  (∀ g w, o.guard = some (g, w) → g ∈ seen ∧ Prec L g i)

/-- who looks at what i makes stands behind i -/
def Rd (all : List Oper) (L : List Nat) (i : Nat) : Prop := ∀ o d, all[i]? = some o → o.dst = some d → ∀ (x : Nat) ox, all[x]? = some ox → Operand.tmp d ∈ ox.op.operands.toList → Prec L i x

theorem Wr.more {all : List Oper} {L seen seen' : List Nat} {i : Nat} (h : Wr all L seen i) (hs : ∀ x ∈ seen, x ∈ seen') : Wr all L seen' i :=
  fun o ho => ⟨fun t ht j oj hj hd => ((h o ho).1 t ht j oj hj hd).imp (fun ⟨a, b⟩ => ⟨hs _ a, b⟩) id, fun g w hg => let ⟨a, b⟩ := (h o ho).2 g w hg; ⟨hs _ a, b⟩⟩

theorem evOk_ok {all : List Oper} {L : List Nat} (HL : LinExt all L) (hsel : allSel all = true) {seen : List Nat} {last : Option Nat} {i : Nat} {e : Bool} (h : evOk all (masks all) seen last i e = true) :
    ∃ o, all[i]? = some o ∧ i ∉ seen ∧ (∀ c, last = some c → Prec L c i) ∧ Wr all L seen i ∧ (e = true → Rd all L i) := by
  unfold evOk at h
  rw [nth_eq] at h
  split at h
  · rename_i o ho
    have h := Bool.and_eq_true_iff.1 h
    have h2 := Bool.and_eq_true_iff.1 h.2
    have h3 := Bool.and_eq_true_iff.1 h2.2
    have h4 := Bool.and_eq_true_iff.1 h3.2
    refine ⟨o, ho, fun hin => ?_, fun c hc => ?_, fun o' ho' => ?_, fun he o' d ho' hd x ox hx hin => ?_⟩
    · rw [(memN_eq _ _).2 hin] at h; simp at h
    · rw [hc] at h2; exact masks_ok HL h2.1
    · rw [ho] at ho'; cases ho'
      refine ⟨fun t ht j oj hj hd => ?_, fun g w hg => ?_⟩
      · rcases opsOk_ok h4.1 t (operandsL_mem (allSel_ok hsel i o ho) ht) j oj hj hd with ⟨a, b⟩ | b
        · exact .inl ⟨a, masks_ok HL b⟩
        · exact .inr (masks_ok HL b)
      · have h5 := h4.2
        unfold guardOk at h5
        rw [hg] at h5
        have h5 := Bool.and_eq_true_iff.1 h5
        exact ⟨(memN_eq _ _).1 h5.1, masks_ok HL h5.2⟩
    · rw [ho] at ho'; cases ho'
      subst he
      have h5 := h3.1
      rw [hd] at h5
      have h6 := rdOk_go all 0 h5 x ox hx (operandsL_mem (allSel_ok hsel x ox hx) hin)
      rw [Nat.zero_add] at h6
      exact masks_ok HL h6
  · cases h

theorem len_le_of_subset : ∀ {l m : List Nat}, l.Nodup → (∀ x ∈ l, x ∈ m) → l.length ≤ m.length
  | [], _, _, _ => Nat.zero_le _
  | x :: l, m, hn, hs => by
    obtain ⟨m1, m2, rfl⟩ := List.append_of_mem (hs x (by simp))
    have hn' := List.nodup_cons.1 hn
    have := len_le_of_subset (l := l) (m := m1 ++ m2) hn'.2 fun y hy => by
      have := hs y (by simp [hy])
      simp only [List.mem_append, List.mem_cons] at this ⊢
      rcases this with h | h | h
      · exact .inl h
      · subst h; exact absurd hy hn'.1
      · exact .inr h
    simp only [List.length_append, List.length_cons] at this ⊢
    omega

theorem full_of_len {l : List Nat} {n : Nat} (hn : l.Nodup) (hlt : ∀ x ∈ l, x < n) (hl : l.length = n) {x : Nat} (hx : x < n) : x ∈ l := by
  by_cases h : x ∈ l
  · exact h
  · have := len_le_of_subset (l := x :: l) (m := List.range n) (List.nodup_cons.2 ⟨h, hn⟩) fun y hy => by
      cases hy with
      | head => exact List.mem_range.2 hx
      | tail _ hy => exact List.mem_range.2 (hlt y hy)
    simp at this; omega

/-- the state of a script -/
structure ScS (tys : T TI) (all : List Oper) (L : List Nat) (sc : List Sc) (seen : List Nat) (last : Option Nat) (evd must : List Nat) : Prop where
  go : scGo tys all (masks all) sc seen last evd must = true
  sel : allSel all = true
  nodup : seen.Nodup
  lt : ∀ x ∈ seen, x < all.length

theorem lt_of_get {α : Type} {l : List α} {i : Nat} {x : α} (h : l[i]? = some x) : i < l.length := by
  rcases Nat.lt_or_ge i l.length with h' | h'
  · exact h'
  · rw [List.getElem?_eq_none h'] at h; cases h

section
variable {tys : T TI} {all : List Oper} {L : List Nat} (HL : LinExt all L) {sc : List Sc} {seen : List Nat} {last : Option Nat} {evd must : List Nat}

theorem ScS.nil (S : ScS tys all L [] seen last evd must) : must = [] ∧ ∀ x, x < all.length → x ∈ seen := by
  have h := S.go
  have h : and (isNilL must) (Nat.beq (List.length seen) (List.length all)) = true := h
  have h := Bool.and_eq_true_iff.1 h
  exact ⟨isNilL_eq h.1, fun x hx => full_of_len S.nodup S.lt (beq_of h.2) hx⟩

include HL in
theorem ScS.ev {i : Nat} (S : ScS tys all L (.ev i :: sc) seen last evd must) :
    (∃ o, all[i]? = some o) ∧ i ∉ seen ∧ (∀ c, last = some c → Prec L c i) ∧ Wr all L seen i ∧ Rd all L i ∧ ScS tys all L sc (i :: seen) last (i :: evd) must := by
  have h := S.go
  have h : and (evOk all (masks all) seen last i true) (scGo tys all (masks all) sc (i :: seen) last (i :: evd) must) = true := h
  have h := Bool.and_eq_true_iff.1 h
  obtain ⟨o, ho, h1, h2, h3, h5⟩ := evOk_ok HL S.sel h.1
  refine ⟨⟨o, ho⟩, h1, h2, h3, h5 rfl, h.2, S.sel, List.nodup_cons.2 ⟨h1, S.nodup⟩, fun x hx => ?_⟩
  cases hx with
  | head => exact lt_of_get ho
  | tail _ hx => exact S.lt x hx

theorem ScS.re {i : Nat} (S : ScS tys all L (.re i :: sc) seen last evd must) : i ∈ evd ∧ ScS tys all L sc seen last evd (rmN must i) := by
  have h := S.go
  have h : and (memN evd i) (scGo tys all (masks all) sc seen last evd (rmN must i)) = true := h
  have h := Bool.and_eq_true_iff.1 h
  exact ⟨(memN_eq _ _).1 h.1, h.2, S.sel, S.nodup, S.lt⟩

include HL in
theorem ScS.ch {i : Nat} (S : ScS tys all L (.ch i :: sc) seen last evd must) :
    must = [] ∧ (∃ o, all[i]? = some o) ∧ i ∉ seen ∧ (∀ c, last = some c → Prec L c i) ∧ Wr all L seen i ∧
    ∃ evd', (∀ x ∈ evd, x ∈ evd' ∨ Prec L x i) ∧ ∃ must', (∀ x ∈ evd', x ∈ must' ∨ isAlAt tys all x = true) ∧ ScS tys all L sc (i :: seen) (some i) evd' must' := by
  have h := S.go
  have h : and (isNilL must) (and (evOk all (masks all) seen last i false) (scGo tys all (masks all) sc (i :: seen) (some i) (keepN (fun x => not (tb (nthD (masks all) i) x)) evd)
    (keepN (fun x => not (isAlAt tys all x)) (keepN (fun x => not (tb (nthD (masks all) i) x)) evd)))) = true := h
  have h := Bool.and_eq_true_iff.1 h
  have h' := Bool.and_eq_true_iff.1 h.2
  obtain ⟨o, ho, h1, h2, h3, _⟩ := evOk_ok HL S.sel h'.1
  refine ⟨isNilL_eq h.1, ⟨o, ho⟩, h1, h2, h3, _, fun x hx => ?_, _, fun x hx => ?_, h'.2, S.sel, List.nodup_cons.2 ⟨h1, S.nodup⟩, fun x hx => ?_⟩
  · rw [mem_keepN]
    by_cases ht : tb (nthD (masks all) i) x = true
    · exact .inr (masks_ok HL ht)
    · exact .inl ⟨hx, by simpa using ht⟩
  · rw [mem_keepN]
    by_cases ht : isAlAt tys all x = true
    · exact .inr ht
    · exact .inl ⟨hx, by simpa using ht⟩
  · cases hx with
    | head => exact lt_of_get ho
    | tail _ hx => exact S.lt x hx

include HL in
/-- what comes later in the script stands behind the last of the row -/
theorem ScS.later : ∀ {sc : List Sc} {seen : List Nat} {c : Nat} {evd must : List Nat}, ScS tys all L sc seen (some c) evd must → ∀ x, x < all.length → x ∉ seen → Prec L c x
  | [], seen, c, evd, must, S, x, hx, hn => absurd (S.nil.2 x hx) hn
  | .ev i :: sc, seen, c, evd, must, S, x, hx, hn => by
    obtain ⟨_, _, h2, _, _, S'⟩ := S.ev HL
    by_cases e : x = i
    · subst e; exact h2 c rfl
    · exact ScS.later S' x hx (by simp [e, hn])
  | .re i :: sc, seen, c, evd, must, S, x, hx, hn => ScS.later S.re.2 x hx hn
  | .ch i :: sc, seen, c, evd, must, S, x, hx, hn => by
    obtain ⟨_, _, _, h2, _, evd', _, must', _, S'⟩ := S.ch HL
    by_cases e : x = i
    · subst e; exact h2 c rfl
    · exact (h2 c rfl).trans (ScS.later S' x hx (by simp [e, hn]))
end

theorem binds_any (e : Edge) : Region.binds .any e = isAny e.ground := by
  unfold Region.binds isAny
  cases e.ground <;> rfl

def RevOk (all : List Oper) : List Nat → Prop
  | [] => True
  | i :: acc => (∀ o, all[i]? = some o → ∀ e ∈ o.after.toList, isAny e.ground = true → e.on ∈ acc) ∧ RevOk all acc

theorem RevOk.at {all : List Oper} : ∀ {X : List Nat} {i : Nat} {Y : List Nat}, RevOk all (X ++ i :: Y) → ∀ o, all[i]? = some o → ∀ e ∈ o.after.toList, isAny e.ground = true → e.on ∈ Y
  | [], _i, _Y, h => h.1
  | _ :: X, _i, _Y, h => RevOk.at (X := X) h.2

theorem acycE_ok {i : Nat} : ∀ {es : List Edge}, acycE i es = true → ∀ e ∈ es, isAny e.ground = true → e.on < i
  | [], _, e, h, _ => by cases h
  | a :: es, h, e, hin, hb => by
    have h : and (or (not (isAny a.ground)) (Nat.ble (Nat.succ a.on) i)) (acycE i es) = true := h
    have h := Bool.and_eq_true_iff.1 h
    cases hin with
    | head =>
      have h1 := h.1
      rw [hb] at h1
      exact Nat.le_of_ble_eq_true (by simpa using h1)
    | tail _ hin => exact acycE_ok h.2 e hin hb

theorem acyc_go : ∀ (l : List Oper) (i0 : Nat), (List.rec (motive := fun _ => Nat → Bool) (fun _ => true) (fun o _ ih i => and (acycE i o.after.toList) (ih (Nat.succ i))) l i0 : Bool) = true →
    ∀ i o, l[i]? = some o → ∀ e ∈ o.after.toList, isAny e.ground = true → e.on < i0 + i
  | [], i0, _, i, o, h => by simp at h
  | a :: l, i0, h, i, o, hi => by
    have h := Bool.and_eq_true_iff.1 h
    cases i with
    | zero => simp at hi; subst hi; exact acycE_ok h.1
    | succ i =>
      intro e he hb
      have := acyc_go l (i0 + 1) h.2 i o (by simpa using hi) e he hb
      omega

theorem linearise_go {ops : Array Oper} (hac : acyc ops.toList = true) : ∀ (fuel t : Nat) (listed : Array Bool) (acc : List Nat), fuel + acc.length = ops.size → listed.size = ops.size →
    (∀ i, i < ops.size → (listed[i]? = some true ↔ i ∈ acc)) → acc.Nodup → (∀ i ∈ acc, i < ops.size) → RevOk ops.toList acc →
    ∃ acc', Region.linearise.go .any ops fuel t listed acc = acc'.reverse ∧ acc'.length = ops.size ∧ acc'.Nodup ∧ (∀ i ∈ acc', i < ops.size) ∧ RevOk ops.toList acc'
  | 0, t, listed, acc, hf, hs, hl, hn, hlt, hr => ⟨acc, rfl, by omega, hn, hlt, hr⟩
  | fuel + 1, t, listed, acc, hf, hs, hl, hn, hlt, hr => by
    have hacyc := acyc_go ops.toList 0 hac
    simp only [Region.linearise.go]
    generalize hrs : ((List.range ops.size).filter fun i =>
        !listed.getD i true && ((ops[i]?).map (·.after.all fun e => !Region.binds .any e || listed.getD e.on false)).getD false) = rs
    have hlisted : ∀ i, i < ops.size → (listed.getD i true = true ↔ i ∈ acc) := by
      intro i hi
      rw [← hl i hi]
      have : listed[i]? = some listed[i] := Array.getElem?_eq_getElem (by omega)
      rw [Array.getD_eq_getD_getElem?, this]; simp
    have hready : ∀ i, i ∈ rs ↔ i < ops.size ∧ i ∉ acc ∧ ∀ o, ops[i]? = some o → ∀ e ∈ o.after.toList, isAny e.ground = true → e.on ∈ acc := by
      intro i
      rw [← hrs, List.mem_filter, List.mem_range]
      constructor
      · rintro ⟨h1, h2⟩
        rw [Bool.and_eq_true] at h2
        refine ⟨h1, fun hin => ?_, fun o ho e he hb => ?_⟩
        · rw [(hlisted i h1).2 hin] at h2; simp at h2
        · have h3 := h2.2
          rw [ho] at h3
          simp only [Option.map_some, Option.getD_some, Array.all_eq_true_iff_forall_mem] at h3
          have h4 := h3 e (by simpa using he)
          rw [binds_any, hb] at h4
          have hei := hacyc i o (by simpa using ho) e he hb
          have h5 : listed.getD e.on false = true := by simpa using h4
          refine (hl e.on (by omega)).1 ?_
          have : listed[e.on]? = some listed[e.on] := Array.getElem?_eq_getElem (by omega)
          rw [Array.getD_eq_getD_getElem?, this] at h5
          rw [this]; simpa using h5
      · rintro ⟨h1, h2, h3⟩
        refine ⟨h1, ?_⟩
        have ho : ops[i]? = some ops[i] := Array.getElem?_eq_getElem h1
        rw [Bool.and_eq_true]
        refine ⟨?_, ?_⟩
        · cases hb : listed.getD i true with
          | false => rfl
          | true => exact absurd ((hlisted i h1).1 hb) h2
        · rw [ho]
          simp only [Option.map_some, Option.getD_some, Array.all_eq_true_iff_forall_mem]
          intro e he
          rw [binds_any]
          cases hb : isAny e.ground with
          | false => rfl
          | true =>
            have hin := h3 _ ho e (by simpa using he) hb
            have := (hl e.on (hlt _ hin)).2 hin
            rw [Array.getD_eq_getD_getElem?, this]; rfl
    have hex : ∃ i, i ∈ rs := by
      have hx : ∃ x, x < ops.size ∧ x ∉ acc := by
        apply Classical.byContradiction
        intro hno
        have := len_le_of_subset (l := List.range ops.size) (m := acc) List.nodup_range fun x hx => by
          apply Classical.byContradiction
          intro hx'
          exact hno ⟨x, List.mem_range.1 hx, hx'⟩
        simp at this; omega
      obtain ⟨x, hx1, hx2⟩ := hx
      have key : ∀ x, x < ops.size → x ∉ acc → ∃ i, i ∈ rs := by
        intro x
        induction x using Nat.strongRecOn with
        | ind x ih =>
          intro h1 h2
          by_cases h3 : ∀ o, ops[x]? = some o → ∀ e ∈ o.after.toList, isAny e.ground = true → e.on ∈ acc
          · exact ⟨x, (hready x).2 ⟨h1, h2, h3⟩⟩
          · have ho : ops[x]? = some ops[x] := Array.getElem?_eq_getElem h1
            apply Classical.byContradiction
            intro hno
            refine h3 fun o ho' e he hb => ?_
            apply Classical.byContradiction
            intro hin
            have hlt' := hacyc x o (by simpa using ho') e he hb
            exact hno (ih e.on (by omega) (by omega) hin)
      exact key x hx1 hx2
    have hlen : 0 < rs.length := by
      obtain ⟨i, hi⟩ := hex
      exact List.length_pos_of_mem hi
    have hlt' : t % rs.length < rs.length := Nat.mod_lt _ hlen
    rw [List.getElem?_eq_getElem hlt']
    simp only
    have hmem : rs[t % rs.length] ∈ rs := List.getElem_mem _
    obtain ⟨a1, a2, a3⟩ := (hready _).1 hmem
    refine linearise_go hac fuel _ _ _ (by simp only [List.length_cons]; omega) (by simp [hs]) (fun j hj => ?_) (List.nodup_cons.2 ⟨a2, hn⟩) (fun j hj => ?_) ⟨fun o ho => a3 o (by simpa using ho), hr⟩
    · rw [Array.getElem?_setIfInBounds, List.mem_cons]
      by_cases e : rs[t % rs.length] = j
      · subst e; simp [hs, a1]
      · rw [if_neg e, hl j hj]
        constructor
        · exact .inr
        · rintro (h | h)
          · exact absurd h.symm e
          · exact h
    · cases hj with
      | head => exact a1
      | tail _ hj => exact hlt j hj

theorem linearise_ok {ops : Array Oper} (hac : acyc ops.toList = true) (t : Nat) : LinExt ops.toList (Region.linearise .any ops t) := by
  obtain ⟨acc, h1, h2, h3, h4, h5⟩ := linearise_go hac ops.size t (Array.replicate ops.size false) [] (by simp) (by simp) (fun i hi => by simp [hi]) List.nodup_nil (fun i hi => by cases hi) trivial
  have hL : Region.linearise .any ops t = acc.reverse := h1
  rw [hL]
  refine ⟨List.pairwise_reverse.2 (h3.imp fun h => h.symm), fun i hi => by simpa using h4 i (by simpa using hi), fun i hi => by simpa using full_of_len h3 h4 h2 (by simpa using hi), fun A i B hAB => ?_⟩
  have : acc = B.reverse ++ i :: A.reverse := by
    have := congrArg List.reverse hAB
    simpa using this
  rw [this] at h5
  intro o ho e he hb
  have := h5.at o ho e he hb
  simpa using this

end Go.Mir
