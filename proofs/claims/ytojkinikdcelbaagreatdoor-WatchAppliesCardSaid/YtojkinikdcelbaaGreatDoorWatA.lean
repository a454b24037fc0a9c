/- Walks: rows appended to rows of the run's own making; rows the same, counted (the reference's same, Count). -/
import Derived.Test.YtojkinikdcelbaaGreatDoorAnsS
set_option linter.unusedSimpArgs false
set_option linter.unusedVariables false
set_option linter.defProp false
namespace Go.Srt
section
variable {α : Type} [DecidableEq α]

/-- rows without others, each taken away as often as it is among these -/
def rem : List α → List α → List α
  | _, [] => []
  | g, x :: l => if x ∈ g then rem (g.erase x) l else x :: rem g l
/-- those that are left over -/
def over : List α → List α → List α
  | g, [] => g
  | g, x :: l => over (g.erase x) l

/-- how often x stands in l -/
def cnt (l : List α) (x : α) : Nat := l.count x
theorem cnt_snoc {l : List α} {x y : α} : cnt (l ++ [y]) x = cnt l x + if y = x then 1 else 0 := by
  unfold cnt
  rw [List.count_append, List.count_singleton]
  simp
theorem cnt_le (l : List α) (x : α) : cnt l x ≤ l.length := List.count_le_length
theorem cnt_erase {l : List α} {x y : α} : cnt (l.erase x) y = cnt l y - if x = y then 1 else 0 := by
  unfold cnt
  rw [List.count_erase]
  simp
theorem cnt_pos {l : List α} {x : α} : 0 < cnt l x ↔ x ∈ l := List.count_pos_iff
theorem over_snoc (x : α) : ∀ (l g : List α), over g (l ++ [x]) = (over g l).erase x
  | [], _ => rfl
  | _ :: l, _ => over_snoc x l _
theorem over_out {x : α} {l g : List α} (h : x ∉ over g l) : over g (l ++ [x]) = over g l := by rw [over_snoc, List.erase_of_not_mem h]
theorem rem_in {x : α} : ∀ {l g : List α}, x ∈ over g l → rem g (l ++ [x]) = rem g l
  | [], g, h => by
    have h : x ∈ g := h
    show (if x ∈ g then rem (g.erase x) [] else x :: rem g []) = rem g []
    rw [if_pos h]; simp [rem]
  | y :: l, g, h => by
    have h : x ∈ over (g.erase y) l := h
    show (if y ∈ g then rem (g.erase y) (l ++ [x]) else y :: rem g (l ++ [x])) = (if y ∈ g then rem (g.erase y) l else y :: rem g l)
    by_cases c : y ∈ g
    · rw [if_pos c, if_pos c, rem_in h]
    · rw [List.erase_of_not_mem c] at h
      rw [if_neg c, if_neg c, rem_in h]
theorem rem_out {x : α} : ∀ {l g : List α}, x ∉ over g l → rem g (l ++ [x]) = rem g l ++ [x]
  | [], g, h => by
    have h : x ∉ g := h
    show (if x ∈ g then rem (g.erase x) [] else x :: rem g []) = rem g [] ++ [x]
    rw [if_neg h]; simp [rem]
  | y :: l, g, h => by
    have h : x ∉ over (g.erase y) l := h
    show (if y ∈ g then rem (g.erase y) (l ++ [x]) else y :: rem g (l ++ [x])) = (if y ∈ g then rem (g.erase y) l else y :: rem g l) ++ [x]
    by_cases c : y ∈ g
    · rw [if_pos c, if_pos c, rem_out h]
    · rw [List.erase_of_not_mem c] at h
      rw [if_neg c, if_neg c, rem_out h]; rfl
theorem count_over (a : α) : ∀ (l g : List α), (over g l).count a = g.count a - l.count a
  | [], g => by simp [over]
  | x :: l, g => by
    simp only [over]
    rw [count_over a l, List.count_erase, List.count_cons]
    by_cases h : x = a
    · subst h; simp; omega
    · simp [h]
theorem rem_len : ∀ (l g : List α), (rem g l).length + g.length = l.length + (over g l).length
  | [], g => by simp [rem, over]
  | x :: l, g => by
    simp only [rem, over]
    by_cases h : x ∈ g
    · have h1 := rem_len l (g.erase x)
      have h2 := List.length_erase_of_mem h
      have h3 := List.length_pos_of_mem h
      rw [if_pos h, List.length_cons]; omega
    · have h1 := rem_len l g
      rw [if_neg h, List.erase_of_not_mem h, List.length_cons, List.length_cons]; omega
theorem rem_le (l g : List α) : (rem g l).length ≤ l.length := by
  induction l generalizing g with
  | nil => simp [rem]
  | cons x l ih =>
    simp only [rem]
    split
    · have := ih (g.erase x); simp only [List.length_cons]; omega
    · have := ih g; simp only [List.length_cons]; omega
theorem rem_mem {x : α} : ∀ {l g : List α}, x ∈ rem g l → x ∈ l
  | [], _, h => by simp [rem] at h
  | y :: l, g, h => by
    simp only [rem] at h
    split at h
    · exact List.mem_cons_of_mem _ (rem_mem h)
    · rcases List.mem_cons.1 h with rfl | h
      · exact List.mem_cons_self
      · exact List.mem_cons_of_mem _ (rem_mem h)
/-- were all there? -/
theorem rem_all {l g : List α} : (l.length : Int) - ((rem g l).length : Int) = (g.length : Int) ↔ ∀ x ∈ g, cnt g x ≤ cnt l x := by
  have h := rem_len l g
  have h2 := rem_le l g
  have e : (l.length : Int) - ((rem g l).length : Int) = (g.length : Int) ↔ (over g l).length = 0 := by omega
  rw [e, List.length_eq_zero_iff]
  constructor
  · intro h x _
    have := count_over x l g
    rw [h, List.count_nil] at this
    show g.count x ≤ l.count x
    omega
  · intro h
    apply List.eq_nil_iff_forall_not_mem.2
    intro x hx
    have h1 := List.count_pos_iff.2 hx
    have h3 := count_over x l g
    have h4 : x ∈ g := List.count_pos_iff.1 (by omega)
    have : g.count x ≤ l.count x := h x h4
    omega
/-- the k-th one of its kind, beside how often it is to go -/
theorem mem_over {l g : List α} {x : α} : x ∈ over g l ↔ ¬ (cnt g x < cnt l x + 1) := by
  rw [← List.count_pos_iff, count_over]
  show _ ↔ ¬ (g.count x < l.count x + 1)
  omega
end
end Go.Srt
namespace Go.Mir
open Go Go.Proofs Go.Srt


theorem OutAt.rowsIn {h : T O} {n0 n : Nat} {v : V} {ls : List (List Tm)} (R : OutAt h n0 n v ls) : RowsIn h n v ls := by
  rcases R with ⟨rfl, rfl⟩ | ⟨id, t, rfl, h1, h2, h3, g, hg⟩
  · exact ⟨fun id hid => (by cases hid), fun _ => undefV, .nil none, fun i hi => absurd hi (by simp)⟩
  · exact ⟨fun i hi => (by cases hi; exact h3), g, .slice _ _ _ _ _ _ (Nat.le_refl _) ⟨_, t, _, 1, h1, .inl rfl, by omega, fun j hj => by rw [Nat.zero_add]; exact (hg j (by omega)).1⟩, fun i hi => (hg i hi).2.1⟩


theorem asc_small {la out : List (List Tm)} (hp : out.Perm la) (hs : Small la) : Small out := small_iff.2 fun y hy => small_iff.1 hs y (hp.mem_iff.1 hy)

theorem RowsIn.one {h : T O} {n : Nat} {v : V} {ls : List (List Tm)} (R : RowsIn h n v ls) : oneV v = true := by
  obtain ⟨_, g, S, _⟩ := R
  generalize ls.length = L at S
  cases S <;> rfl

theorem nbeq {a : Nat} : Nat.beq a a = true := Nat.beq_refl a
theorem RowsIn.sameB {h : T O} {n : Nat} {v : V} {ls : List (List Tm)} (R : RowsIn h n v ls) : sameB v v = true := by
  obtain ⟨_, g, S, _⟩ := R
  generalize ls.length = L at S
  cases S with
  | nil a =>
    cases a with
    | none => rfl
    | some a => exact @decide_eq_true _ (Classical.propDecidable _) ⟨rfl, rfl, rfl⟩
  | tail => simp only [Mir.sameB, nbeq, Bool.and_self]
  | slice id off len ex k lo => cases ex <;> simp only [Mir.sameB, nbeq, Bool.and_self, Bool.not_false]
theorem RowsIn.sameV {h : T O} {n : Nat} {v : V} {ls : List (List Tm)} (R : RowsIn h n v ls) : sameV v v = true := by
  have h := R.sameB
  obtain ⟨_, g, S, _⟩ := R
  generalize ls.length = L at S
  cases S <;> exact h
theorem sl_sameB {h : T O} {e : Nat} {g : Nat → V} {v : V} {L : Nat} (S : Sl h e g v L) : sameB v v = true := by
  cases S with
  | nil a =>
    cases a with
    | none => rfl
    | some a => exact @decide_eq_true _ (Classical.propDecidable _) ⟨rfl, rfl, rfl⟩
  | tail => simp only [Mir.sameB, nbeq, Bool.and_self]
  | slice id off len ex k lo => cases ex <;> simp only [Mir.sameB, nbeq, Bool.and_self, Bool.not_false]
theorem sl_same {h : T O} {e : Nat} {g : Nat → V} {v : V} {L : Nat} (S : Sl h e g v L) : sameV v v = true := by
  have h := sl_sameB S
  cases S <;> exact h
theorem fold_len (once : Bool) : ∀ (l acc : List (List Tm)), (l.foldl (fun acc x => putR once x acc) acc).length ≤ acc.length + l.length
  | [], acc => Nat.le_refl _
  | x :: l, acc => by
    have h1 := fold_len once l (putR once x acc)
    have h2 := putR_len once x acc
    rw [List.foldl_cons, List.length_cons]; omega
theorem fold_mem (once : Bool) : ∀ (l acc : List (List Tm)) (y : List Tm), y ∈ l.foldl (fun acc x => putR once x acc) acc → y ∈ acc ∨ y ∈ l
  | [], acc, y, h => .inl h
  | x :: l, acc, y, h => by
    rcases fold_mem once l (putR once x acc) y h with h1 | h1
    · rcases putR_mem once x acc h1 with rfl | h2
      · exact .inr (List.mem_cons_self)
      · exact .inl h2
    · exact .inr (List.mem_cons_of_mem _ h1)
theorem fold_small {once : Bool} {la : List (List Tm)} (hs : Small la) : Small (la.foldl (fun acc x => putR once x acc) []) :=
  small_iff.2 fun y hy => (fold_mem once la [] y hy).elim (fun h => (by cases h)) fun h => small_iff.1 hs y h
theorem sameV_ans {v : V} {y : Bool} (h : sameB v v = true) : sameV (.agg [.bool y, v]) (.agg [.bool y, v]) = true := by
  have e1 : sameB (.bool y) (.bool y) = true := by cases y <;> rfl
  show (Bool.rec false (Bool.rec false (sameL [] []) (sameB v v)) (sameB (.bool y) (.bool y)) : Bool) = true
  rw [e1, h]; rfl
theorem two_at {h : T O} {id : Nat} {t : T V} {a b : V} (h1 : h.get id = some (.cells t 2 2)) (ha : t.get 0 = some a) (hb : t.get 1 = some b) {k : List V → Out} : cellsAt h id 0 2 k = k [a, b] := by
  rw [cellsAt_eq, h1]
  show need (Nat.ble 2 2) (loadN t 0 2 k) = _
  rw [loadN_2]
  show om (t.get 1) (fun b => om (t.get 0) fun a => k [a, b]) = _
  rw [ha, hb]; rfl

end Go.Mir
namespace Go.Mir
open Go Go.Proofs Go.Srt
set_option maxRecDepth 4000
set_option maxHeartbeats 8000000

theorem src_rows {h : T O} {g : Nat → V} {vn : V} {m : Nat} (S : Sl h 1 g vn m) {te : TI} (ht : te.size = 1) {k : List V → Nat → Out} : srcK h te vn k = k ((List.range m).map g) m := by
  cases S with
  | nil a => rw [srcK_nil, need_beq rfl]; rfl
  | tail => rfl
  | slice id off len ex kk lo hlo C => rw [srcK_slice, ht, C.all rfl rfl, Nat.mul_one]

theorem sl22 {k : TI → Out} : sliceTy tys 22 k = k ti47 := by
  show om (tys.get 22) _ = _
  rw [ty22]
  show om (tys.get 47) _ = _
  rw [ty47]; rfl

theorem OutAt.take {h : T O} {n0 n : Nat} {v : V} {ls : List (List Tm)} (O : OutAt h n0 n v ls) {id : Nat} (hv : vid v = some id) : n0 ≤ id ∧ id < n := by
  rcases O with ⟨rfl, _⟩ | ⟨i, t, rfl, _, h2, h3, _⟩
  · cases hv
  · cases hv; exact ⟨h2, h3⟩

/-- a list of rows of the run's own making, the rows below b -/
def OutB (h : T O) (b n0 n : Nat) (v : V) (ls : List (List Tm)) : Prop :=
  (v = .base (.slice none 0 0) ∧ ls = []) ∨ ∃ id t, v = .slice id 0 ls.length false 0 ls.length ∧ h.get id = some (.cells t ls.length 1) ∧ n0 ≤ id ∧ id < n ∧
    ∃ g : Nat → V, ∀ j, j < ls.length → t.get j = some (g j) ∧ RowIn h b (g j) (ls.getD j []) ∧ vid (g j) ≠ some id
theorem OutB.out {h : T O} {b n0 n : Nat} {v : V} {ls : List (List Tm)} (O : OutB h b n0 n v ls) (hb : b ≤ n) : OutAt h n0 n v ls := by
  rcases O with q | ⟨id, t, h1, h2, h3, h4, g, hg⟩
  · exact .inl q
  · exact .inr ⟨id, t, h1, h2, h3, h4, g, fun j hj => ⟨(hg j hj).1, ⟨(hg j hj).2.1.1, fun i hi => Nat.lt_of_lt_of_le ((hg j hj).2.1.2 i hi) hb⟩, (hg j hj).2.2⟩⟩
theorem OutAt.toB {h : T O} {n0 n : Nat} {v : V} {ls : List (List Tm)} (O : OutAt h n0 n v ls) : OutB h n n0 n v ls := O
theorem OutB.keepAt {h h' : T O} {b n0 n n' : Nat} {v : V} {ls : List (List Tm)} (O : OutB h b n0 n v ls) (hn : n ≤ n') (hk : ∀ j, j < b ∨ (n0 ≤ j ∧ j < n) → h'.get j = h.get j) : OutB h' b n0 n' v ls := by
  rcases O with q | ⟨id, t, h1, h2, h3, h4, g, hg⟩
  · exact .inl q
  · exact .inr ⟨id, t, h1, by rw [hk id (.inr ⟨h3, h4⟩)]; exact h2, h3, by omega, g, fun j hj => ⟨(hg j hj).1, ⟨(hg j hj).2.1.1.keep fun i hi => hk i (.inl ((hg j hj).2.1.2 i hi)), (hg j hj).2.1.2⟩, (hg j hj).2.2⟩⟩
theorem OutB.take {h : T O} {b n0 n : Nat} {v : V} {ls : List (List Tm)} (O : OutB h b n0 n v ls) {id : Nat} (hv : vid v = some id) : n0 ≤ id ∧ id < n := by
  rcases O with ⟨rfl, _⟩ | ⟨i, t, rfl, _, h2, h3, _⟩
  · cases hv
  · cases hv; exact ⟨h2, h3⟩
/-- rows appended to rows of the run's own making -/
theorem app_rowsB {h : T O} {b n0 n : Nat} {acc vn : V} {ls ln : List (List Tm)} {g : Nat → V} (O : OutB h b n0 n acc ls) (S : Sl h 1 g vn ln.length) (hr : ∀ i, i < ln.length → RowIn h b (g i) (ln.getD i []))
    (hg : ∀ i, i < ln.length → ∀ id, vid acc = some id → vid (g i) ≠ some id) (hl : ls.length + ln.length ≤ 1000000) (hb : b ≤ n) (h0 : n0 ≤ n) :
    ∃ v' h' n', (∀ k : Kv, appendK tys h n 22 acc vn k = k v' h' n') ∧ OutB h' b n0 n' v' (ls ++ ln) ∧ Gro h n0 h' n' ∧ n ≤ n' ∧ (∀ j, j < n → vid acc ≠ some j → h'.get j = h.get j) ∧ (ls ++ ln = [] → v' = acc) := by
  have hS : ∀ {k : List V → Nat → Out}, srcK h ti47 vn k = k ((List.range ln.length).map g) ln.length := src_rows S rfl
  have one : ∀ i, i < ln.length → oneV (g i) = true := fun i hi => (hr i hi).1.one
  rcases O with ⟨rfl, rfl⟩ | ⟨id, t, rfl, g1, g2, g3, gg, hgg⟩
  · by_cases c0 : ln.length = 0
    · have e : ln = [] := List.length_eq_zero_iff.1 c0
      refine ⟨.base (.slice none 0 0), h, n, fun k => ?_, .inl ⟨rfl, by rw [e]; rfl⟩, ⟨h0, fun _ _ => rfl⟩, Nat.le_refl n, fun _ _ _ => rfl, fun _ => rfl⟩
      rw [appendK_base, sl22, hS, app0_nil, if_pos c0]; rfl
    · refine ⟨.slice n 0 ln.length false 0 ln.length, h.put n (some (.cells (ofT ((List.range ln.length).map g)) ln.length 1)), n + 1, fun k => ?_,
        .inr ⟨n, _, by rw [List.nil_append], by rw [T.get_put, if_pos rfl, List.nil_append], h0, by omega, g, fun j hj => ?_⟩, ⟨by omega, fun j hj => by rw [T.get_put, if_neg (by omega)]⟩, by omega,
        fun j hj _ => by rw [T.get_put, if_neg (by omega)], fun e => absurd (by rw [List.nil_append] at e; rw [e]; rfl) c0⟩
      · rw [appendK_base, sl22, hS, app0_nil, if_neg c0, growK_eq, need_ble (by simp at hl; omega), List.length_map, List.length_range]; rfl
      · rw [List.nil_append] at hj ⊢
        refine ⟨by rw [ofT_get, List.getElem?_map, List.getElem?_range hj]; rfl, ⟨(hr j hj).1.keep fun i hi => by rw [T.get_put, if_neg (by have := (hr j hj).2 _ hi; omega)], (hr j hj).2⟩, fun e => ?_⟩
        have := (hr j hj).2 _ e; omega
  · have hne : ∀ i, i < ln.length → vid (g i) ≠ some id := fun i hi => hg i hi id rfl
    by_cases c0 : ln.length = 0
    · have e : ln = [] := List.length_eq_zero_iff.1 c0
      refine ⟨.slice id 0 ls.length false 0 ls.length, h, n, fun k => ?_, .inr ⟨id, t, by rw [e, List.append_nil], by rw [e, List.append_nil]; exact g1, g2, g3, gg, by rw [e, List.append_nil]; exact hgg⟩, ⟨h0, fun _ _ => rfl⟩, Nat.le_refl n, fun _ _ _ => rfl, fun _ => rfl⟩
      rw [appendK_slice, sl22, hS, app1_eq, c0, if_pos (by omega), if_pos rfl]; rfl
    · have hC : ∀ {kk : List V → Out}, cellsAt h id 0 (ls.length * 1) kk = kk ((List.range (ls.length * 1)).map gg) := Cells.all ⟨_, t, _, 1, g1, .inl rfl, by omega, fun j hj => by rw [Nat.zero_add]; exact (hgg j (by omega)).1⟩ rfl rfl
      simp only [Nat.mul_one] at hC
      have hA : allOne ((List.range ls.length).map gg ++ (List.range ln.length).map g) = true := allOne_of fun v hv => by
        rcases List.mem_append.1 hv with hv | hv
        · obtain ⟨j, hj, rfl⟩ := List.mem_map.1 hv
          exact (hgg j (List.mem_range.1 hj)).2.1.1.one
        · obtain ⟨j, hj, rfl⟩ := List.mem_map.1 hv
          exact one j (List.mem_range.1 hj)
      have hk : ∀ {X : Option O} {j : Nat}, j < n → j ≠ id → ((h.put id none).put n X).get j = h.get j := fun {X j} hj hne => by rw [T.get_put, if_neg (by omega), T.get_put, if_neg hne]
      have ext : ∀ {X : Option O} {v : V} {l : List Tm}, RowIn h b v l → vid v ≠ some id → RowIn ((h.put id none).put n X) b v l := fun R hne =>
        ⟨R.1.keep fun i hi => hk (by have := R.2 i hi; omega) (by rintro rfl; exact hne hi), R.2⟩
      have far : ∀ {v : V} {l : List Tm}, RowIn h b v l → vid v ≠ some n := fun R e => by have := R.2 _ e; omega
      refine ⟨.slice n 0 (ls.length + ln.length) false 0 (ls.length + ln.length), (h.put id none).put n (some (.cells (ofT ((List.range ls.length).map gg ++ (List.range ln.length).map g)) (ls.length + ln.length) 1)), n + 1, fun k => ?_,
        .inr ⟨n, _, by rw [List.length_append], by rw [T.get_put, if_pos rfl, List.length_append], h0, by omega, fun j => if j < ls.length then gg j else g (j - ls.length), fun j hj => ?_⟩,
        ⟨by omega, fun j hj => hk (by omega) (by omega)⟩, by omega, fun j hj hne => hk hj (by rintro rfl; exact hne rfl), fun e => absurd (by rw [(List.append_eq_nil_iff.1 e).2]; rfl) c0⟩
      · rw [appendK_slice, sl22, hS, app1_eq, if_neg (by omega)]
        show cellsAt h id (0 : Nat) (ls.length * 1) _ = _
        rw [Nat.mul_one, hC]
        show app2 h n 1 id 0 0 _ _ k = _
        rw [app2_eq, g1, om_some, oCells_cells, hA, growK_eq, need_ble (by omega), List.length_append, List.length_map, List.length_map, List.length_range, List.length_range]; rfl
      · rw [List.length_append] at hj
        dsimp only
        rw [ofT_get, List.getElem?_append, List.length_map, List.length_range]
        by_cases c : j < ls.length
        · rw [if_pos c, if_pos c, List.getElem?_map, List.getElem?_range c]
          have e1 : (ls ++ ln).getD j [] = ls.getD j [] := by rw [List.getD_eq_getElem?_getD, List.getElem?_append_left c, List.getD_eq_getElem?_getD]
          rw [e1]
          exact ⟨rfl, ext (hgg j c).2.1 (hgg j c).2.2, far (hgg j c).2.1⟩
        · have c' : j - ls.length < ln.length := by omega
          rw [if_neg c, if_neg c, List.getElem?_map, List.getElem?_range c']
          have e1 : (ls ++ ln).getD j [] = ln.getD (j - ls.length) [] := by rw [List.getD_eq_getElem?_getD, List.getElem?_append_right (by omega), List.getD_eq_getElem?_getD]
          rw [e1]
          exact ⟨rfl, ext (hr _ c') (hne _ c'), far (hr _ c')⟩

theorem app_rows {h : T O} {n0 n : Nat} {acc vn : V} {ls ln : List (List Tm)} {g : Nat → V} (O : OutAt h n0 n acc ls) (S : Sl h 1 g vn ln.length) (hr : ∀ i, i < ln.length → RowIn h n (g i) (ln.getD i []))
    (hg : ∀ i, i < ln.length → ∀ id, vid acc = some id → vid (g i) ≠ some id) (hl : ls.length + ln.length ≤ 1000000) (h0 : n0 ≤ n) :
    ∃ v' h' n', (∀ k : Kv, appendK tys h n 22 acc vn k = k v' h' n') ∧ OutAt h' n0 n' v' (ls ++ ln) ∧ Gro h n0 h' n' ∧ n ≤ n' ∧ (∀ j, j < n → vid acc ≠ some j → h'.get j = h.get j) ∧ (ls ++ ln = [] → v' = acc) := by
  obtain ⟨v', h', n', a, b, c, d, e⟩ := app_rowsB O.toB S hr hg hl (Nat.le_refl n) h0
  exact ⟨v', h', n', a, b.out d, c, d, e⟩

theorem sl_one {h : T O} {id : Nat} {r : V} (hg : h.get id = some (.cells (ofT [r]) 1 1)) : Sl h 1 (fun _ => r) (.slice id 0 1 true 1 1) 1 :=
  .slice _ _ _ _ _ _ (Nat.le_refl _) ⟨_, _, 1, 1, hg, .inl rfl, by omega, fun j hj => by
    have : j = 0 := by omega
    subst this
    rfl⟩

/-- rows the same, by the reference -/
theorem same44_ok {h : T O} {n : Nat} {va vb : V} {la lb : List Tm} (ha : Row h va la) (hb : Row h vb lb) (hla : la.length ≤ 1000000) (hlb : lb.length ≤ 1000000) :
    Fn env1 44 [va, vb] h n (fun v h' n' => v = .bool (decide (la = lb)) ∧ h' = h ∧ n' = n) := by
  refine Fn.mk fn44 rfl fz44 (by simp) fun Q cs K => ?_
  have la_len : ∀ {e : Nat} {k : V → Out}, lenIn h (.slice e) va k = k (.int .i64 (la.length : Int)) := Sl.len ha
  have lb_len : ∀ {e : Nat} {k : V → Out}, lenIn h (.slice e) vb k = k (.int .i64 (lb.length : Int)) := Sl.len hb
  simp (maxSteps := 2000000) (disch := first | omega | assumption) only [↓mCode, ↓mOps, mAll, seval, vPtr, ite_ne, wrap_i64, boundN_int, e1_tys, e1_fns, fn44, Tryz.f44, la_len, lb_len]
  refine ⟨fun h1 => K _ _ _ ⟨by rw [decide_eq_false]; intro e; subst e; exact h1 rfl, rfl, rfl⟩, fun h1 => ?_⟩
  have hl : la.length = lb.length := by omega
  refine W_loop (fun m regs h' n' => ∃ i : Nat, m = la.length - i ∧ i ≤ la.length ∧ regs.get 0 = some va ∧ regs.get 1 = some vb ∧ regs.get 5 = some (.int .i64 (i : Int)) ∧
    h' = h ∧ n' = n ∧ ∀ j, j < i → la.getD j (0, [], []) = lb.getD j (0, [], [])) _ ⟨0, rfl, by omega, ?_, ?_, ?_, rfl, rfl, fun j hj => absurd hj (by omega)⟩ ?_
  · simp (maxSteps := 2000000) (disch := first | omega | assumption) only [↓mCode, ↓mOps, mAll, seval, vPtr, ite_ne, wrap_i64, boundN_int, e1_tys]
  · simp (maxSteps := 2000000) (disch := first | omega | assumption) only [↓mCode, ↓mOps, mAll, seval, vPtr, ite_ne, wrap_i64, boundN_int, e1_tys]
  · simp (maxSteps := 2000000) (disch := first | omega | assumption) only [↓mCode, ↓mOps, mAll, seval, vPtr, ite_ne, wrap_i64, boundN_int, e1_tys]
  rintro m regs h' n' ⟨i, rfl, hi1, r0, r1, r5, rfl, rfl, hx⟩ IH
  by_cases c1 : i < la.length
  · have c1' : (i : Int) < (la.length : Int) := by omega
    have c2 : i < lb.length := by omega
    obtain ⟨ida, ofa, exa, ka, loa, rfl, hloa, hca⟩ := ha.get c1
    obtain ⟨idb, ofb, exb, kb, lob, rfl, hlob, hcb⟩ := hb.get c2
    simp (maxSteps := 2000000) (disch := first | omega | assumption) only [↓mCode, ↓mOps, mAll, seval, vPtr, ite_ne, wrap_i64, boundN_int, e1_tys, e1_fns, fn44, Tryz.f44, r0, r1, r5, la_len, lb_len, c1']
    refine W_draw sr44_6 ss44_6 ?_ ?_
    · exact sk44_6
    simp (maxSteps := 2000000) (disch := first | omega | assumption) only [↓mCode, ↓mOps, mAll, seval, vPtr, ite_ne, wrap_i64, boundN_int, e1_tys, e1_fns, fn44, Tryz.f44, r0, r1, r5, la_len, lb_len, c1', ↓hca, ↓hcb, hca, hcb, binK_aggneq, eqTm]
    refine ⟨fun h2 => ?_, fun h2 => K _ _ _ ⟨by rw [decide_eq_false]; intro e; exact h2 (by rw [e]), rfl, rfl⟩⟩
    refine IH (la.length - (i + 1)) _ _ _ (by omega) ⟨i + 1, rfl, by omega, ?_, ?_, ?_, rfl, rfl, fun j hj => ?_⟩
    iterate 3
      · simp only [mBase, Nat.reduceEqDiff, Nat.reduceSub, reduceIte, r0, r1] <;> rfl
    · by_cases e : j = i
      · rw [e]; exact h2
      · exact hx j (by omega)
  · have c1' : ¬ (i : Int) < (la.length : Int) := by omega
    simp (maxSteps := 2000000) (disch := first | omega | assumption) only [↓mCode, ↓mOps, mAll, seval, vPtr, ite_ne, wrap_i64, boundN_int, e1_tys, e1_fns, fn44, Tryz.f44, r0, r1, r5, la_len, lb_len, c1']
    exact K _ _ _ ⟨by rw [decide_eq_true]; exact list_ext_getD hl fun j hj => hx j (by omega), rfl, rfl⟩

theorem take_snocR {ls : List (List Tm)} {i : Nat} (h : i < ls.length) : ls.take (i + 1) = ls.take i ++ [ls.getD i []] := by
  rw [List.take_add_one, List.getElem?_eq_getElem h, List.getD_eq_getElem?_getD, List.getElem?_eq_getElem h]; rfl

/-- how often a row stands among some, by the reference -/
theorem count25_ok {h : T O} {n : Nat} {vl vr : V} {ls : List (List Tm)} {x : List Tm} (hl : Rows h vl ls) (hr : Row h vr x) (hn : ls.length ≤ 1000000) (hs : Small ls) (hx : x.length ≤ 1000000) :
    Fn env1 25 [vl, vr] h n (fun v h' n' => v = .int .i64 (cnt ls x : Int) ∧ h' = h ∧ n' = n) := by
  refine Fn.mk fn25 rfl fz25 (by simp) fun Q cs K => ?_
  have l_len : ∀ {e : Nat} {k : V → Out}, lenIn h (.slice e) vl k = k (.int .i64 (ls.length : Int)) := hl.len
  simp (maxSteps := 2000000) (disch := first | omega | assumption) only [↓mCode, ↓mOps, mAll, seval, vPtr, ite_ne, wrap_i64, boundN_int, e1_tys, e1_fns, fn25, Tryz.f25, l_len]
  refine W_loop (fun m regs h' n' => ∃ i : Nat, m = ls.length - i ∧ i ≤ ls.length ∧ regs.get 0 = some vl ∧ regs.get 1 = some vr ∧ regs.get 5 = some (.int .i64 (cnt (ls.take i) x : Int)) ∧ regs.get 6 = some (.int .i64 (i : Int)) ∧
    h' = h ∧ n' = n) _ ⟨0, rfl, by omega, ?_, ?_, ?_, ?_, rfl, rfl⟩ ?_
  · simp (maxSteps := 2000000) (disch := first | omega | assumption) only [↓mCode, ↓mOps, mAll, seval, vPtr, ite_ne, wrap_i64, boundN_int, e1_tys]
  · simp (maxSteps := 2000000) (disch := first | omega | assumption) only [↓mCode, ↓mOps, mAll, seval, vPtr, ite_ne, wrap_i64, boundN_int, e1_tys]
  · simp (maxSteps := 2000000) (disch := first | omega | assumption) only [↓mCode, ↓mOps, mAll, seval, vPtr, ite_ne, wrap_i64, boundN_int, e1_tys]; rfl
  · simp (maxSteps := 2000000) (disch := first | omega | assumption) only [↓mCode, ↓mOps, mAll, seval, vPtr, ite_ne, wrap_i64, boundN_int, e1_tys]
  rintro m regs h' n' ⟨i, rfl, hi1, r0, r1, r5, r6, rfl, rfl⟩ IH
  by_cases c1 : i < ls.length
  · have c1' : (i : Int) < (ls.length : Int) := by omega
    obtain ⟨ida, ofa, exa, ka, loa, ra, hvl, hloa, hca, hra⟩ := hl.get c1
    have hsn := take_snocR c1
    have hcl : cnt (ls.take i) x ≤ 1000000 := Nat.le_trans (cnt_le _ _) (by rw [List.length_take]; omega)
    simp (maxSteps := 2000000) (disch := first | omega | assumption) only [↓mCode, ↓mOps, mAll, seval, vPtr, ite_ne, wrap_i64, boundN_int, e1_tys, e1_fns, fn25, Tryz.f25, r0, r1, r5, r6, l_len, c1', hvl, hca, Nat.mul_one]
    refine (same44_ok hra hr (hs i c1) hx).call rfl e1_subs ?_
    rintro _ _ _ ⟨rfl, rfl, rfl⟩
    by_cases c2 : ls.getD i [] = x
    · have e2 : decide (ls.getD i [] = x) = true := decide_eq_true c2
      simp (maxSteps := 2000000) (disch := first | omega | assumption) only [↓mCode, ↓mOps, mAll, seval, vPtr, ite_ne, wrap_i64, boundN_int, e1_tys, e1_fns, fn25, Tryz.f25, r0, r1, r5, r6, e2]
      refine IH (ls.length - (i + 1)) _ _ _ (by omega) ⟨i + 1, rfl, by omega, ?_, ?_, ?_, ?_, rfl, rfl⟩
      iterate 2
        · simp only [mBase, Nat.reduceEqDiff, Nat.reduceSub, reduceIte, r0, hvl, r1] <;> rfl
      · rw [hsn, cnt_snoc, if_pos c2]; simp (maxSteps := 2000000) (disch := first | omega | assumption) only [↓mCode, ↓mOps, mAll, seval, vPtr, ite_ne, wrap_i64, boundN_int, r5]; rfl
      · simp only [mBase, Nat.reduceEqDiff, Nat.reduceSub, reduceIte, r6] <;> rfl
    · have e2 : decide (ls.getD i [] = x) = false := decide_eq_false c2
      simp (maxSteps := 2000000) (disch := first | omega | assumption) only [↓mCode, ↓mOps, mAll, seval, vPtr, ite_ne, wrap_i64, boundN_int, e1_tys, e1_fns, fn25, Tryz.f25, r0, r1, r5, r6, e2]
      refine IH (ls.length - (i + 1)) _ _ _ (by omega) ⟨i + 1, rfl, by omega, ?_, ?_, ?_, ?_, rfl, rfl⟩
      iterate 2
        · simp only [mBase, Nat.reduceEqDiff, Nat.reduceSub, reduceIte, r0, hvl, r1] <;> rfl
      · rw [hsn, cnt_snoc, if_neg c2]; simp (maxSteps := 2000000) (disch := first | omega | assumption) only [↓mCode, ↓mOps, mAll, seval, vPtr, ite_ne, wrap_i64, boundN_int, r5]
      · simp only [mBase, Nat.reduceEqDiff, Nat.reduceSub, reduceIte, r6] <;> rfl
  · have c1' : ¬ (i : Int) < (ls.length : Int) := by omega
    simp (maxSteps := 2000000) (disch := first | omega | assumption) only [↓mCode, ↓mOps, mAll, seval, vPtr, ite_ne, wrap_i64, boundN_int, e1_tys, e1_fns, fn25, Tryz.f25, r0, r1, r5, r6, l_len, c1']
    exact K _ _ _ ⟨by rw [List.take_of_length_le (by omega)], rfl, rfl⟩
end Go.Mir
