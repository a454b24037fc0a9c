/- The environments of the closed runs: what is known of calls; a function run on the spot. No statement of the program is proved here. -/
import Derived.Lib.ItoaNum
import Derived.Lib.Replace
import Derived.Test.YtojkinikdcelbaaGreatDoorNWD
import Derived.Test.YtojkinikdcelbaaGreatDoorNMirAY
import Derived.Test.YtojkinikdcelbaaGreatDoorNMay
set_option linter.unusedSimpArgs false
set_option linter.unusedVariables false
set_option linter.defProp false
namespace Go.Srt
open Go.Lib

/-- one byte replaced by others, everywhere -/
theorem replaceK_one {c : UInt8} {new : List UInt8} : ∀ (k : Nat) (s : List UInt8), s.count c = k → replaceK [c] new k s = s.flatMap fun b => if b = c then new else [b]
  | 0, s, h => by
    rw [replaceK]
    have hc : c ∉ s := List.count_eq_zero.1 h
    induction s with
    | nil => rfl
    | cons b s ih =>
      have hb : b ≠ c := fun e => hc (e ▸ List.mem_cons_self)
      rw [List.flatMap_cons, if_neg hb, ← ih (by simpa [hb] using h) fun hm => hc (List.mem_cons_of_mem _ hm)]; rfl
  | k + 1, s, h => by
    have hm : c ∈ s := List.count_pos_iff.1 (by omega)
    obtain ⟨i, hi⟩ := index_of_count (s := s) (old := [c]) (by rw [count_one]; omega)
    rw [replaceK_hit _ _ _ _ i hi]
    have h1 : indexByte s c = i := by rw [← index_one]; exact hi
    obtain ⟨h2, h3⟩ := indexByte_some h1
    obtain ⟨hlt, hget⟩ := List.getElem?_eq_some_iff.1 h2
    have hs : s = s.take i ++ c :: s.drop (i + 1) := by
      conv => lhs; rw [← List.take_append_drop i s, List.drop_eq_getElem_cons hlt, hget]
    have hn : c ∉ s.take i := fun hx => by
      obtain ⟨j, hj, e⟩ := List.getElem_of_mem hx
      rw [List.length_take] at hj
      refine h3 j (by omega) ?_
      rw [List.getElem_take] at e
      rw [List.getElem?_eq_getElem (by omega), e]
    have hc : (s.drop (i + 1)).count c = k := by
      rw [hs, List.count_append, List.count_eq_zero.2 hn, List.count_cons_self] at h; omega
    have ih := replaceK_one (new := new) k _ hc
    have hl : [c].length = 1 := rfl
    rw [hl, ih]
    conv => rhs; rw [hs]
    rw [List.flatMap_append, List.flatMap_cons, if_pos rfl]
    have h4 : (s.take i).flatMap (fun b => if b = c then new else [b]) = s.take i := by
      have := replaceK_one (c := c) (new := new) 0 (s.take i) (List.count_eq_zero.2 hn)
      rw [← this]; rfl
    rw [h4, List.append_assoc]

theorem replaceAll_one {c : UInt8} {new s : List UInt8} (h : [c] ≠ new) : replaceAll s [c] new = s.flatMap fun b => if b = c then new else [b] := by
  unfold replaceAll replace
  have h' : ¬ ([c] == new) = true := by simpa using h
  rw [if_neg h']
  have e : replaceNum s [c] (-1) = s.count c := by
    unfold replaceNum
    rw [if_pos (by omega), count_one]
  rw [e]
  exact replaceK_one _ s rfl

/-- a text, so that no byte 0 stands in it -/
def escB (s : List UInt8) : List UInt8 := replaceAll (replaceAll s [1] [1, 1]) [0] [1, 2]
def escN : List Nat → List Nat := fun s => s.flatMap fun b => if b = 1 then [1, 1] else if b = 0 then [1, 2] else [b]
theorem escB_N (s : List UInt8) : (escB s).map UInt8.toNat = escN (s.map UInt8.toNat) := by
  unfold escB escN
  rw [replaceAll_one (by decide), replaceAll_one (by decide)]
  induction s with
  | nil => rfl
  | cons b s ih =>
    rw [List.flatMap_cons, List.flatMap_append, List.map_append, ih, List.map_cons, List.flatMap_cons]
    congr 1
    by_cases h1 : b = 1
    · subst h1; rfl
    · have h1' : ¬ b.toNat = 1 := fun e => h1 (UInt8.toNat_inj.1 e)
      rw [if_neg h1, if_neg h1']
      by_cases h0 : b = 0
      · subst h0; rfl
      · have h0' : ¬ b.toNat = 0 := fun e => h0 (UInt8.toNat_inj.1 e)
        rw [if_neg h0', List.flatMap_cons, if_neg h0]; rfl

theorem escN_0 (s : List Nat) : 0 ∉ escN s := by
  unfold escN
  intro h
  obtain ⟨b, _, hb⟩ := List.mem_flatMap.1 h
  split at hb
  · simp at hb
  · split at hb
    · simp at hb
    · rename_i h0; simp at hb; omega
def unesc : List Nat → List Nat
  | 1 :: 1 :: l => 1 :: unesc l
  | 1 :: 2 :: l => 0 :: unesc l
  | b :: l => b :: unesc l
  | [] => []
theorem unesc_esc : ∀ s : List Nat, unesc (escN s) = s
  | [] => rfl
  | b :: s => by
    have ih := unesc_esc s
    have e : escN (b :: s) = (if b = 1 then [1, 1] else if b = 0 then [1, 2] else [b]) ++ escN s := rfl
    rw [e]
    by_cases h1 : b = 1
    · subst h1; simp [unesc, ih]
    · rw [if_neg h1]
      by_cases h0 : b = 0
      · subst h0; simp [unesc, ih]
      · rw [if_neg h0, List.singleton_append, unesc, ih]
        · intro l h; exact absurd h h1
        · intro l h; exact absurd h h1
theorem escN_inj {a b : List Nat} (h : escN a = escN b) : a = b := by rw [← unesc_esc a, h, unesc_esc]

theorem split_at {c : Nat} : ∀ {a b r s : List Nat}, c ∉ a → c ∉ b → a ++ c :: r = b ++ c :: s → a = b ∧ r = s
  | [], [], _, _, _, _, h => ⟨rfl, (List.cons.inj h).2⟩
  | [], y :: b, _, _, _, hb, h => (hb ((List.cons.inj h).1 ▸ List.mem_cons_self)).elim
  | x :: a, [], _, _, ha, _, h => (ha ((List.cons.inj h).1 ▸ List.mem_cons_self)).elim
  | x :: a, y :: b, r, s, ha, hb, h => by
    obtain ⟨h1, h2⟩ := List.cons.inj h
    obtain ⟨h3, h4⟩ := split_at (fun hm => ha (List.mem_cons_of_mem _ hm)) (fun hm => hb (List.mem_cons_of_mem _ hm)) h2
    exact ⟨by rw [h1, h3], h4⟩

theorem dec_range : ∀ (u : Nat), ∀ b ∈ decDigits u, 48 ≤ b.toNat ∧ b.toNat ≤ 57 := by
  intro u
  induction u using Nat.strongRecOn with
  | ind u ih =>
    intro b hb
    rw [decDigits] at hb
    have one : ∀ d, d < 10 → (UInt8.ofNat (48 + d)).toNat = 48 + d := fun d hd => by rw [UInt8.toNat_ofNat']; omega
    split at hb
    · rename_i h
      rw [List.mem_singleton] at hb; rw [hb, one u h]; omega
    · rcases List.mem_append.1 hb with h | h
      · exact ih (u / 10) (by omega) b h
      · rw [List.mem_singleton] at h; rw [h, one _ (Nat.mod_lt _ (by omega))]; omega
theorem dec_inj : ∀ (u v : Nat), decDigits u = decDigits v → u = v := by
  intro u
  induction u using Nat.strongRecOn with
  | ind u ih =>
    intro v h
    have one : ∀ d, d < 10 → (UInt8.ofNat (48 + d)).toNat = 48 + d := fun d hd => by rw [UInt8.toNat_ofNat']; omega
    have inj : ∀ d e, d < 10 → e < 10 → UInt8.ofNat (48 + d) = UInt8.ofNat (48 + e) → d = e := fun d e hd he q => by
      have := congrArg UInt8.toNat q
      rw [one d hd, one e he] at this; omega
    have ne : ∀ w, decDigits w ≠ [] := fun w q => by
      have := decDigits_length w
      rw [q] at this
      have := nDigits_pos w
      simp at *; omega
    by_cases h1 : u < 10 <;> by_cases h2 : v < 10
    · rw [decDigits, dif_pos h1, decDigits, dif_pos h2] at h
      exact inj u v h1 h2 (List.cons.inj h).1
    · rw [decDigits_one h1, decDigits, dif_neg h2] at h
      have h3 := congrArg List.length h
      rw [List.length_append, List.length_singleton, List.length_singleton] at h3
      exact absurd (List.length_eq_zero_iff.1 (by omega)) (ne (v / 10))
    · rw [decDigits_one h2] at h
      rw [decDigits, dif_neg h1] at h
      have h3 := congrArg List.length h
      rw [List.length_append, List.length_singleton, List.length_singleton] at h3
      exact absurd (List.length_eq_zero_iff.1 (by omega)) (ne (u / 10))
    · rw [decDigits, dif_neg h1] at h
      conv at h => rhs; rw [decDigits, dif_neg h2]
      obtain ⟨h3, h4⟩ := List.append_inj' h rfl
      have h5 := ih (u / 10) (by omega) (v / 10) h3
      have h6 := inj _ _ (Nat.mod_lt _ (by omega)) (Nat.mod_lt _ (by omega)) (List.cons.inj h4).1
      omega
/-- a whole number's numeral, as numbers -/
def itoN (k : Int) : List Nat := (itoa k).map UInt8.toNat
theorem itoN_58 (k : Int) : 58 ∉ itoN k := by
  unfold itoN itoa
  intro h
  obtain ⟨b, hb, e⟩ := List.mem_map.1 h
  split at hb
  · rcases List.mem_cons.1 hb with rfl | h
    · revert e; decide
    · have := dec_range _ b h; omega
  · have := dec_range _ b hb; omega
theorem map_toNat_inj : ∀ {a b : List UInt8}, a.map UInt8.toNat = b.map UInt8.toNat → a = b
  | [], [], _ => rfl
  | [], _ :: _, h => by cases h
  | _ :: _, [], h => by cases h
  | x :: a, y :: b, h => by
    rw [List.map_cons, List.map_cons] at h
    obtain ⟨h1, h2⟩ := List.cons.inj h
    rw [UInt8.toNat_inj.1 h1, map_toNat_inj h2]
theorem itoN_inj {a b : Int} (h : itoN a = itoN b) : a = b := by
  have h : itoa a = itoa b := by
    unfold itoN at h
    exact map_toNat_inj h
  unfold itoa at h
  have no : ∀ (u : Nat) (l : List UInt8), decDigits u = 45 :: l → False := fun u l e => by
    have := dec_range u 45 (e ▸ List.mem_cons_self)
    revert this; decide
  split at h <;> split at h
  · have := dec_inj _ _ (List.cons.inj h).2; omega
  · exact (no _ _ h.symm).elim
  · exact (no _ _ h).elim
  · have := dec_inj _ _ h; omega

/-- what a term gives to the key -/
def keyT (t : Int × List Nat × List Nat) : List Nat := itoN t.1 ++ 58 :: (escN t.2.1 ++ 0 :: (escN t.2.2 ++ [0]))
def keyR (l : List (Int × List Nat × List Nat)) : List Nat := l.flatMap keyT
theorem keyR_inj : ∀ {a b : List (Int × List Nat × List Nat)}, keyR a = keyR b → a = b
  | [], [], _ => rfl
  | [], y :: b, h => by
    have := congrArg List.length h
    simp [keyR, keyT] at this
  | x :: a, [], h => by
    have := congrArg List.length h
    simp [keyR, keyT] at this
  | x :: a, y :: b, h => by
    have e : ∀ (t : Int × List Nat × List Nat) l, keyR (t :: l) = itoN t.1 ++ 58 :: (escN t.2.1 ++ 0 :: (escN t.2.2 ++ 0 :: keyR l)) := fun t l => by
      simp [keyR, keyT]
    rw [e, e] at h
    obtain ⟨h1, q1⟩ := split_at (itoN_58 _) (itoN_58 _) h
    obtain ⟨h2, q2⟩ := split_at (escN_0 _) (escN_0 _) q1
    obtain ⟨h3, q3⟩ := split_at (escN_0 _) (escN_0 _) q2
    have q4 := keyR_inj q3
    clear h q1 q2 q3
    obtain ⟨x1, x2, x3⟩ := x
    obtain ⟨y1, y2, y3⟩ := y
    obtain rfl : x1 = y1 := itoN_inj h1
    obtain rfl : x2 = y2 := escN_inj h2
    obtain rfl : x3 = y3 := escN_inj h3
    rw [q4]
end Go.Srt
namespace Go.Mir
open Go Go.Srt

/-- a whole number's numeral; the small ones at once -/
noncomputable def itoD (n : Nat) (b : Bool) : List Nat := match b with | true => [Nat.add 48 n] | false => itoN (.ofNat n)
noncomputable def itoM (k : Int) : List Nat := match k with | .ofNat n => itoD n (Nat.ble n 9) | .negSucc n => itoN (.negSucc n)
theorem itoM_eq (k : Int) : itoM k = itoN k := by
  cases k with
  | negSucc n => rfl
  | ofNat n =>
    show itoD n (Nat.ble n 9) = _
    cases h : Nat.ble n 9 with
    | false => rfl
    | true =>
      have h' : n < 10 := by have := Nat.le_of_ble_eq_true h; omega
      show [Nat.add 48 n] = itoN (n : Int)
      unfold itoN Lib.itoa
      rw [if_neg (by omega), Int.toNat_natCast, Lib.decDigits_one h', List.map_cons, List.map_nil, UInt8.toNat_ofNat']
      congr 1
      show 48 + n = _
      omega
noncomputable def escM (s : List Nat) : List Nat :=
  List.rec (motive := fun _ => List Nat) [] (fun b _ ih => match Nat.beq b 1 with | true => 1 :: 1 :: ih | false => (match Nat.beq b 0 with | true => 1 :: 2 :: ih | false => b :: ih)) s
theorem escM_eq : ∀ s, escM s = escN s
  | [] => rfl
  | b :: s => by
    have ih := escM_eq s
    show (match Nat.beq b 1 with | true => 1 :: 1 :: escM s | false => (match Nat.beq b 0 with | true => 1 :: 2 :: escM s | false => b :: escM s)) = _
    rw [ih]
    unfold escN
    rw [List.flatMap_cons]
    cases h1 : Nat.beq b 1 with
    | true => rw [if_pos (Nat.eq_of_beq_eq_true h1)]; rfl
    | false =>
      rw [if_neg (fun e => by rw [e] at h1; cases h1)]
      cases h0 : Nat.beq b 0 with
      | true => rw [if_pos (Nat.eq_of_beq_eq_true h0)]; rfl
      | false => rw [if_neg (fun e => by rw [e] at h0; cases h0)]; rfl
noncomputable def keyM (l : List Tm) : List Nat :=
  List.rec (motive := fun _ => List Nat) [] (fun t _ ih => itoM t.1 ++ 58 :: (escM t.2.1 ++ 0 :: (escM t.2.2 ++ 0 :: ih))) l
theorem keyM_eq : ∀ l, keyM l = keyR l
  | [] => rfl
  | t :: l => by
    have ih := keyM_eq l
    show itoM t.1 ++ 58 :: (escM t.2.1 ++ 0 :: (escM t.2.2 ++ 0 :: keyM l)) = _
    rw [ih, itoM_eq, escM_eq, escM_eq]
    simp [keyR, keyT]

/-- a term as it may stand in a row that has a key: a number of 64 bits, texts not too long -/
def okT (t : Tm) : Prop := -9223372036854775808 ≤ t.1 ∧ t.1 ≤ 9223372036854775807 ∧ t.2.1.length ≤ 30000 ∧ t.2.2.length ≤ 30000
def okR (l : List Tm) : Prop := l.length ≤ 100 ∧ ∀ t ∈ l, okT t
noncomputable def ok64 (k : Int) : Bool := match k with | .ofNat n => Nat.ble n 9223372036854775807 | .negSucc n => Nat.ble n 9223372036854775807
theorem ok64_iff {k : Int} : ok64 k = true ↔ -9223372036854775808 ≤ k ∧ k ≤ 9223372036854775807 := by
  cases k with
  | ofNat n =>
    show Nat.ble n _ = true ↔ _
    rw [Nat.ble_eq]
    show _ ↔ -9223372036854775808 ≤ (n : Int) ∧ (n : Int) ≤ _
    omega
  | negSucc n =>
    show Nat.ble n _ = true ↔ _
    rw [Nat.ble_eq]
    omega
noncomputable def okB (l : List Tm) : Bool :=
  and (Nat.ble l.length 100) (List.rec (motive := fun _ => Bool) true (fun t _ ih => and (and (ok64 t.1) (and (Nat.ble t.2.1.length 30000) (Nat.ble t.2.2.length 30000))) ih) l)
theorem okB_iff {l : List Tm} : okB l = true ↔ okR l := by
  unfold okB okR
  rw [Bool.and_eq_true, Nat.ble_eq]
  apply and_congr Iff.rfl
  induction l with
  | nil => simp
  | cons t l ih =>
    show and _ (List.rec (motive := fun _ => Bool) true (fun t _ ih => and (and (ok64 t.1) (and (Nat.ble t.2.1.length 30000) (Nat.ble t.2.2.length 30000))) ih) l) = true ↔ _
    rw [Bool.and_eq_true, ih, Bool.and_eq_true, Bool.and_eq_true, ok64_iff, Nat.ble_eq, Nat.ble_eq]
    simp only [List.mem_cons, forall_eq_or_imp, okT]
    constructor
    · rintro ⟨⟨⟨a, b⟩, c, d⟩, e⟩; exact ⟨⟨a, b, c, d⟩, e⟩
    · rintro ⟨⟨a, b, c, d⟩, e⟩; exact ⟨⟨⟨a, b⟩, c, d⟩, e⟩

/-- a row that lies in a block -/
noncomputable def tm3 (a b c : Option V) : Option Tm :=
  match a with
  | some (.int .i64 k) => (match b with | some (.str s) => (match c with | some (.str e) => some (k, s, e) | _ => none) | _ => none)
  | _ => none
noncomputable def rowFrom (t : T V) (m : Nat) : Nat → Option (List Tm) :=
  Nat.rec (motive := fun _ => Nat → Option (List Tm)) (fun _ => some [])
    (fun _ ih off => match tm3 (t.get off) (t.get (Nat.succ off)) (t.get (Nat.succ (Nat.succ off))) with
      | some x => (match ih (Nat.succ (Nat.succ (Nat.succ off))) with | some l => some (x :: l) | none => none)
      | none => none) m
noncomputable def rowIn (t : T V) (m off len : Nat) : Option (List Tm) := match Nat.ble (Nat.add off (Nat.mul len 3)) m with | true => rowFrom t len off | false => none
noncomputable def rowOfO (o : Option O) (off len : Nat) : Option (List Tm) :=
  match o with
  | some (.cells t m _) => rowIn t m off len
  | some (.ro t m _) => rowIn t m off len
  | _ => none
noncomputable def rowOfV (h : T O) (v : V) : Option (List Tm) :=
  match v with
  | .base (.slice _ 0 0) => some []
  | .tail .. => some []
  | .slice id off len _ _ lo => (match Nat.ble len lo with | true => rowOfO (h.get id) off len | false => none)
  | _ => none
noncomputable def keyL (o : Option (List Tm)) : Option V := match o with | some l => (match okB l with | true => fL (keyM l) fun s => some (.str s) | false => none) | none => none
noncomputable def keyHook (args : List V) (h : T O) : Option V := match args with | [v] => keyL (rowOfV h v) | _ => none

theorem rowFrom_ok {t : T V} : ∀ {l : List Tm} {off : Nat}, (∀ j, j < l.length * 3 → t.get (off + j) = some (rowG l j)) → rowFrom t l.length off = some l
  | [], _, _ => rfl
  | x :: l, off, h => by
    have h0 := h 0 (by simp)
    have h1 := h 1 (by rw [List.length_cons]; omega)
    have h2 := h 2 (by rw [List.length_cons]; omega)
    have ih := rowFrom_ok (t := t) (l := l) (off := off + 3) fun j hj => by
      have := h (j + 3) (by rw [List.length_cons]; omega)
      rw [show off + 3 + j = off + (j + 3) by omega, this]
      unfold rowG
      have e1 : (j + 3) / 3 = j / 3 + 1 := by omega
      have e2 : (j + 3) % 3 = j % 3 := by omega
      rw [e1, e2, List.getD_cons_succ]
    show (match tm3 (t.get off) (t.get (off + 1)) (t.get (off + 1 + 1)) with
      | some x => (match rowFrom t l.length (off + 1 + 1 + 1) with | some l => some (x :: l) | none => none)
      | none => none) = _
    rw [show off = off + 0 from rfl, h0, show off + 0 + 1 = off + 1 from rfl, h1, show off + 1 + 1 = off + 2 from rfl, h2, show off + 2 + 1 = off + 3 from rfl, ih]
    rfl

/-- A ROW HAS ITS KEY -/
theorem keyHook_ok {h : T O} {v : V} {l : List Tm} (R : Row h v l) (ok : okR l) : keyHook [v] h = some (.str (keyR l)) := by
  have e : rowOfV h v = some l := by
    unfold Row at R
    generalize hL : l.length = L at R
    cases R with
    | nil a => rw [List.length_eq_zero_iff.1 hL]; rfl
    | tail => rw [List.length_eq_zero_iff.1 hL]; rfl
    | slice id off len ex k lo hlo C =>
      subst hL
      obtain ⟨o, t, m, z, ho, hor, hm, hc⟩ := C
      show (match Nat.ble l.length lo with | true => rowOfO (h.get id) off l.length | false => none) = _
      rw [Nat.ble_eq_true_of_le hlo, ho]
      have : rowIn t m off l.length = some l := by
        unfold rowIn
        rw [show Nat.ble (Nat.add off (Nat.mul l.length 3)) m = true from Nat.ble_eq_true_of_le hm]
        exact rowFrom_ok hc
      rcases hor with rfl | rfl <;> exact this
  show keyL (rowOfV h v) = _
  rw [e]
  show (match okB l with | true => fL (keyM l) fun s => some (V.str s) | false => none) = _
  rw [okB_iff.2 ok]
  show fL (keyM l) (fun s => some (V.str s)) = _
  have fl : ∀ (l : List Nat) {β : Type} (k : List Nat → β), fL l k = k l := fun l β k => fL_eq l k
  rw [fl, keyM_eq]

/- maps of texts to whole numbers -/
def entV (es : List (List Nat × Int × Nat)) : List (V × V × Nat) := es.map fun e => (.str e.1, .int .i64 e.2.1, e.2.2)
def getE : List (List Nat × Int × Nat) → List Nat → Int
  | [], _ => 0
  | e :: es, w => if w = e.1 then e.2.1 else getE es w
def setE : List (List Nat × Int × Nat) → List Nat → Int → Nat → List (List Nat × Int × Nat)
  | [], w, z, c => [(w, z, c)]
  | e :: es, w, z, c => if w = e.1 then (w, z, e.2.2) :: es else e :: setE es w z c
theorem getE_set {w u : List Nat} {z : Int} {c : Nat} : ∀ {es : List (List Nat × Int × Nat)}, getE (setE es w z c) u = if u = w then z else getE es u
  | [] => rfl
  | e :: es => by
    simp only [setE]
    by_cases h : w = e.1
    · rw [if_pos h]
      simp only [getE]
      by_cases h2 : u = w
      · rw [if_pos h2, if_pos h2]
      · rw [if_neg h2, if_neg h2, if_neg (fun q => h2 (q.trans h.symm))]
    · rw [if_neg h]
      simp only [getE]
      rw [getE_set]
      by_cases h2 : u = w
      · rw [if_pos h2, if_pos h2, if_neg (fun q => h (h2.symm.trans q))]
      · rw [if_neg h2, if_neg h2]
end Go.Mir
namespace Go.Mir
open Go Go.RowKit

theorem subRun_ok {P : Program} {E : Env} {f0 : Nat} {args0 : List V} {h0 : T O} {n0 : Nat} {y z : Rz} {go : Go_} (G : ∀ W0 f0 cs0 B0, Good P E.tys W0 f0 cs0 B0 go)
    (hy : enterG E.fns f0 args0 h0 n0 go = .ok y) (hz : Rz.le z y) :
    ∀ f args h n r, subOf f0 args0 h0 n0 z f args h n = .ok r → ∃ go r', (∀ W0 f0 cs0 B0, Good P E.tys W0 f0 cs0 B0 go) ∧ Rz.le r r' ∧
      (om (E.fns.get f) fun fn => om fn.body fun body => fNat fn.ntmps fun sz => regsOf args sz fun regs => go ⟨f, sz, [], none⟩ regs [.code body] [] h n) = .ok r' := by
  intro f args h n r e
  obtain ⟨rfl, rfl, rfl, hp, rfl⟩ := subOf_ok e
  exact ⟨narrow h0 go, y, fun W0 f0 cs0 B0 => narrow_ok (G W0 f0 cs0 B0), hz, (enterG_narrow (go := go) hp).trans hy⟩

/-- one function is run on the spot, another one is known -/
noncomputable def subTwo (L : Nat) (EI : Env) (g : Nat → List V → T O → Nat → Out) (f : Nat) (args : List V) (h : T O) (n : Nat) : Out :=
  Bool.rec (g f args h n) (runF EI 1000000 f args h n) (Nat.beq f L)
theorem subTwo_ok {P : Program} {E EI : Env} {L : Nat} {g : Nat → List V → T O → Nat → Out} (hI : EnvR P EI) (h1 : EI.tys = E.tys) (h2 : EI.fns = E.fns)
    (hg : ∀ f args h n z, g f args h n = .ok z → ∃ go r, (∀ W0 f0 cs0 B0, Good P E.tys W0 f0 cs0 B0 go) ∧ Rz.le z r ∧
      (om (E.fns.get f) fun fn => om fn.body fun body => fNat fn.ntmps fun sz => regsOf args sz fun regs => go ⟨f, sz, [], none⟩ regs [.code body] [] h n) = .ok r) :
    ∀ f args h n z, subTwo L EI g f args h n = .ok z → ∃ go r, (∀ W0 f0 cs0 B0, Good P E.tys W0 f0 cs0 B0 go) ∧ Rz.le z r ∧
      (om (E.fns.get f) fun fn => om fn.body fun body => fNat fn.ntmps fun sz => regsOf args sz fun regs => go ⟨f, sz, [], none⟩ regs [.code body] [] h n) = .ok r := by
  intro f args h n z e
  rcases rec_ok e with ⟨_, e⟩ | ⟨_, e⟩
  · refine ⟨execF EI 1000000, z, fun W0 f0 cs0 B0 => ?_, Rz.le.refl z, ?_⟩
    · rw [← h1]; exact execF_ok hI _
    · rw [← h2]; exact e
  · exact hg f args h n z e
end Go.Mir
namespace Go.Mir
open Go Go.Proofs
noncomputable def hook2 (f : Nat) (args : List V) (h : T O) : Option V := match Nat.beq f 40 with | true => keyHook args h | false => hookOf hookTab f args h
noncomputable def envI : Env := { ext := exts, tys, fns, scripts, subs := .nil, subF := fun _ _ _ _ => bad 0, comb := forkK, hook := hook2 }
noncomputable def subsL : T Nat := T.setK (T.blank 10) 266 (some 1) .nil id
noncomputable def subsT : T Nat := T.setK subsL 70 (some 1) .nil id
noncomputable def subsC : T Nat := T.setK subsL 172 (some 1) .nil id
noncomputable def pickN (n : Nat) (l : List Out) : Out := List.rec (motive := fun _ => Nat → Out) (fun _ => bad 77) (fun o t ih n => Nat.rec (motive := fun _ => Out) o (fun m _ => List.rec (motive := fun _ => Out) o (fun _ _ _ => ih m) t) n) l n
end Go.Mir
