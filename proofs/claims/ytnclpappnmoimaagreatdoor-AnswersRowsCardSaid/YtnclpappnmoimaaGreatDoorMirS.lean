/- The small machine against the model: worlds. No statement of the program stands here. -/
import Derived.Test.YtnclpappnmoimaaGreatDoorMirR
import Derived.Laws.IdiomCopy
namespace Go.Mir
open Go Go.RowKit

def RegsR (β : Beta) (regs : T V) (tmps : Array Value) (skip : Nat → Prop) : Prop :=
  ∀ t v, regs.get t = some v → ¬ skip t → conc β v = some (tmps.getD t undef)

def no : Nat → Prop := fun _ => False

theorem RegsR.mono {β β' : Beta} {regs : T V} {tmps : Array Value} {s : Nat → Prop} (h : RegsR β regs tmps s) (l : Le β β') : RegsR β' regs tmps s :=
  fun t v a b => conc_mono l _ _ (h t v a b)

def EntsR (β : Beta) : List (V × V × Nat) → List MapEntry → Prop
  | [], [] => True
  | e :: es, m :: ms => conc β e.1 = some m.key ∧ conc β e.2.1 = some m.val ∧ m.born = e.2.2 ∧ EntsR β es ms
  | _, _ => False

theorem EntsR.mono {β β' : Beta} (l : Le β β') : ∀ {es : List (V × V × Nat)} {ms : List MapEntry}, EntsR β es ms → EntsR β' es ms
  | [], [], _ => trivial
  | _ :: _, _ :: _, h => ⟨conc_mono l _ _ h.1, conc_mono l _ _ h.2.1, h.2.2.1, EntsR.mono l h.2.2.2⟩
  | [], _ :: _, h => h.elim
  | _ :: _, [], h => h.elim

/-- how a block of ours stands to a block of the model's -/
def ObjR (β : Beta) (b : Blk) (o : O) (ob : Option Obj) : Prop :=
  match o with
  | .cells t n esz => ∃ c elem frz, ob = some (.cells c elem frz) ∧ n ≤ b.room * esz ∧ b.off + b.room * esz ≤ c.size ∧
      (∀ j, b.off ≤ j → j < b.off + b.room * esz → ¬ (frz.1 ≤ j ∧ j < frz.2)) ∧
      ∀ i v, i < n → t.get i = some v → ∃ x, c[b.off + i]? = some x ∧ conc β v = some x
  | .map es clock => ∃ ms, ob = some (.map ms clock) ∧ EntsR β es ms.toList
  | .loop st pending fn sz regs ps assign body d => ∃ L bd, ob = some (.loop L) ∧ L.state = st ∧ L.pending = pending ∧ L.fn = fn ∧ L.tmps.size = sz ∧
      RegsR β regs L.tmps no ∧ L.params.toList = ps ∧ L.assign = assign ∧ L.body = body ∧ β d = some bd ∧ L.defers = bd.blk
  | .deferred => ob = some (.deferred (some []))
  | .ro t n _ => ∃ c elem frz, ob = some (.cells c elem frz) ∧ ∀ i v, i < n → t.get i = some v → ∃ x, c[b.off + i]? = some x ∧ conc β v = some x
  | .iter m since seen last => b.off = 0 ∧ ∃ k, ob = some (.mapIter k since seen.toArray last) ∧ (match m with | none => k = none | some id => ∃ bm, β id = some bm ∧ k = some bm.blk)

theorem ObjR.mono {β β' : Beta} {b : Blk} {o : O} {ob : Option Obj} (l : Le β β') (h : ObjR β b o ob) : ObjR β' b o ob := by
  cases o with
  | cells t n esz =>
    obtain ⟨c, elem, frz, h1, h2, h3, h4, h5⟩ := h
    exact ⟨c, elem, frz, h1, h2, h3, h4, fun i v hi hv => let ⟨x, hx, hc⟩ := h5 i v hi hv; ⟨x, hx, conc_mono l _ _ hc⟩⟩
  | map es clock => obtain ⟨ms, h1, h2⟩ := h; exact ⟨ms, h1, h2.mono l⟩
  | loop st pending fn sz regs ps assign body d =>
    obtain ⟨L, bd, h1, h2, h3, h4, h5, h6, h7, h8, h9, h10, h11⟩ := h
    exact ⟨L, bd, h1, h2, h3, h4, h5, h6.mono l, h7, h8, h9, l _ _ h10, h11⟩
  | ro t n esz =>
    obtain ⟨c, elem, frz, h1, h5⟩ := h
    exact ⟨c, elem, frz, h1, fun i v hi hv => let ⟨x, hx, hc⟩ := h5 i v hi hv; ⟨x, hx, conc_mono l _ _ hc⟩⟩
  | deferred => exact h
  | iter m since seen last =>
    obtain ⟨h0, k, h1, h2⟩ := h
    refine ⟨h0, k, h1, ?_⟩
    cases m with
    | none => exact h2
    | some id => obtain ⟨bm, h3, h4⟩ := h2; exact ⟨bm, l _ _ h3, h4⟩

/-- how our blocks stand to a world -/
structure HR (W0 : World) (β : Beta) (h : T O) (n : Nat) (w : World) : Prop where
  obj : ∀ id o b, h.get id = some o → β id = some b → ObjR β b o w.heap[b.blk]?
  inj : ∀ i j oi oj bi bj, h.get i = some oi → h.get j = some oj → β i = some bi → β j = some bj → bi.blk = bj.blk → i = j
  dom : ∀ id b, β id = some b → id < n ∧ b.blk < w.heap.size
  below : Below W0.heap.size W0 w
  above : ∀ j, n ≤ j → h.get j = none
  own : ∀ id o b, h.get id = some o → roO o = false → β id = some b → W0.heap.size ≤ b.blk

/-- what a step may do: new blocks, and nothing to blocks that do not stand in the world yet -/
structure More (β : Beta) (h : T O) (n : Nat) (β' : Beta) (h' : T O) (n' : Nat) : Prop where
  le : Le β β'
  lt : n ≤ n'
  pend : ∀ id, id < n → β id = none → β' id = none ∧ ∀ o, plainO o = true → h.get id = some o → h'.get id = some o

theorem More.refl (β : Beta) (h : T O) (n : Nat) : More β h n β h n := ⟨Le.refl β, Nat.le_refl n, fun _ _ e => ⟨e, fun _ _ h => h⟩⟩
theorem More.trans {β β' β'' : Beta} {h h' h'' : T O} {n n' n'' : Nat} (a : More β h n β' h' n') (b : More β' h' n' β'' h'' n'') : More β h n β'' h'' n'' :=
  ⟨a.le.trans b.le, Nat.le_trans a.lt b.lt, fun id hi hb =>
    let ⟨h1, h2⟩ := a.pend id hi hb
    let ⟨h3, h4⟩ := b.pend id (Nat.lt_of_lt_of_le hi a.lt) h1
    ⟨h3, fun o hp ho => h4 o hp (h2 o hp ho)⟩⟩

def upd (β : Beta) (id : Nat) (b : Blk) : Beta := fun i => if i = id then some b else β i

theorem upd_le {β : Beta} {id : Nat} {b : Blk} (h : β id = none) : Le β (upd β id b) := fun i x hx => by
  unfold upd; split
  · rename_i e; rw [e, h] at hx; cases hx
  · exact hx

theorem upd_self {β : Beta} {id : Nat} {b : Blk} : upd β id b id = some b := by simp [upd]

section
variable {W0 : World} {β : Beta} {h : T O} {n : Nat} {w : World}

theorem HR.base (H : HR W0 β h n w) : W0.heap.size ≤ w.heap.size := H.below.size

theorem HR.free (H : HR W0 β h n w) {id : Nat} (hn : n ≤ id) : β id = none := by
  cases hb : β id with
  | none => rfl
  | some b => have := (H.dom id b hb).1; omega

/-- a block that does not stand in the world yet -/
theorem HR.new (H : HR W0 β h n w) {h' : T O} {o : O} (hg : ∀ j, h'.get j = if j = n then some o else h.get j) : HR W0 β h' (n + 1) w where
  obj id o' b h1 h2 := by
    have hid := (H.dom id b h2).1
    rw [hg, if_neg (by omega)] at h1
    exact H.obj id o' b h1 h2
  inj i j oi oj bi bj h1 h2 h3 h4 e := by
    have hi := (H.dom i bi h3).1
    have hj := (H.dom j bj h4).1
    rw [hg, if_neg (by omega)] at h1
    rw [hg, if_neg (by omega)] at h2
    exact H.inj i j oi oj bi bj h1 h2 h3 h4 e
  dom id b hb := let ⟨a, d⟩ := H.dom id b hb; ⟨by omega, d⟩
  below := H.below
  above j hj := by rw [hg, if_neg (by omega)]; exact H.above j (by omega)
  own id o' b h1 hr h2 := by
    have hid := (H.dom id b h2).1
    rw [hg, if_neg (by omega)] at h1
    exact H.own id o' b h1 hr h2

/-- and now it does -/
theorem HR.alloc (H : HR W0 β h n w) {id : Nat} {o : O} {b : Blk} {ob : Obj} (hid : id < n) (hb : β id = none) (ho : h.get id = some o)
    (hk : b.blk = w.heap.size) (hob : ObjR (upd β id b) b o (some ob)) : HR W0 (upd β id b) h n (w.alloc ob) where
  obj i o' b' h1 h2 := by
    by_cases e : i = id
    · subst e
      rw [upd_self] at h2; cases h2
      rw [ho] at h1; cases h1
      have : (w.alloc ob).heap[b.blk]? = some ob := by rw [hk]; show (w.heap.push ob)[w.heap.size]? = _; simp
      rw [this]; exact hob
    · have h2' : β i = some b' := by simpa [upd, e] using h2
      have hlt := (H.dom i b' h2').2
      have : (w.alloc ob).heap[b'.blk]? = w.heap[b'.blk]? := Below.heap_alloc _ _ _ hlt
      rw [this]
      exact (H.obj i o' b' h1 h2').mono (upd_le hb)
  inj i j oi oj bi bj h1 h2 h3 h4 e := by
    by_cases ei : i = id <;> by_cases ej : j = id
    · rw [ei, ej]
    · subst ei
      rw [upd_self] at h3; cases h3
      have h4' : β j = some bj := by simpa [upd, ej] using h4
      have := (H.dom j bj h4').2
      omega
    · subst ej
      rw [upd_self] at h4; cases h4
      have h3' : β i = some bi := by simpa [upd, ei] using h3
      have := (H.dom i bi h3').2
      omega
    · exact H.inj i j oi oj bi bj h1 h2 (by simpa [upd, ei] using h3) (by simpa [upd, ej] using h4) e
  dom i b' h2 := by
    have hs : (w.alloc ob).heap.size = w.heap.size + 1 := by simp
    by_cases e : i = id
    · subst e
      rw [upd_self] at h2; cases h2
      exact ⟨hid, by omega⟩
    · obtain ⟨a, d⟩ := H.dom i b' (by simpa [upd, e] using h2)
      exact ⟨a, by omega⟩
  below := H.below.alloc H.base ob
  above := H.above
  own i o' b' h1 hr h2 := by
    by_cases e : i = id
    · subst e
      rw [upd_self] at h2; cases h2
      rw [hk]; exact H.base
    · exact H.own i o' b' h1 hr (by simpa [upd, e] using h2)

theorem HR.drew (H : HR W0 β h n w) : HR W0 β h n w.drew where
  obj := H.obj
  inj := H.inj
  dom := H.dom
  below := H.below.drew
  above := H.above
  own := H.own

/-- a block that is not asked any more -/
theorem HR.drop (H : HR W0 β h n w) {h' : T O} {id : Nat} (hg : ∀ j, h'.get j = if j = id then none else h.get j) : HR W0 β h' n w where
  obj i o b h1 h2 := by
    rw [hg] at h1; split at h1
    · cases h1
    · exact H.obj i o b h1 h2
  inj i j oi oj bi bj h1 h2 h3 h4 e := by
    rw [hg] at h1 h2
    split at h1; · cases h1
    split at h2; · cases h2
    exact H.inj i j oi oj bi bj h1 h2 h3 h4 e
  dom := H.dom
  below := H.below
  above j hj := by rw [hg]; split; · rfl
                   · exact H.above j hj
  own i o b h1 hr h2 := by
    rw [hg] at h1; split at h1
    · cases h1
    · exact H.own i o b h1 hr h2

/-- a block with other contents, here and there -/
theorem HR.put (H : HR W0 β h n w) {h' : T O} {id : Nat} {o o0 : O} {b : Blk} {w' : World} (ho0 : h.get id = some o0) (hb : β id = some b)
    (hg : ∀ j, h'.get j = if j = id then some o else h.get j) (hw : ∀ k, k ≠ b.blk → w'.heap[k]? = w.heap[k]?) (hs : w'.heap.size = w.heap.size)
    (hbel : Below W0.heap.size w w') (hob : ObjR β b o w'.heap[b.blk]?) (hro : roO o0 = false := by rfl) : HR W0 β h' n w' where
  obj i o' b' h1 h2 := by
    by_cases e : i = id
    · subst e
      rw [hb] at h2; cases h2
      rw [hg, if_pos rfl] at h1; cases h1
      exact hob
    · rw [hg, if_neg e] at h1
      have : b'.blk ≠ b.blk := fun eb => e (H.inj i id o' o0 b' b h1 ho0 h2 hb eb)
      rw [hw _ this]
      exact H.obj i o' b' h1 h2
  inj i j oi oj bi bj h1 h2 h3 h4 e := by
    have hi : ∃ o, h.get i = some o := by
      rw [hg] at h1; split at h1
      · rename_i e; exact ⟨o0, e ▸ ho0⟩
      · exact ⟨_, h1⟩
    have hj : ∃ o, h.get j = some o := by
      rw [hg] at h2; split at h2
      · rename_i e; exact ⟨o0, e ▸ ho0⟩
      · exact ⟨_, h2⟩
    obtain ⟨oi', hi⟩ := hi
    obtain ⟨oj', hj⟩ := hj
    exact H.inj i j oi' oj' bi bj hi hj h3 h4 e
  dom i b' h2 := let ⟨a, d⟩ := H.dom i b' h2; ⟨a, by omega⟩
  below := H.below.trans hbel
  above j hj := by
    have := (H.dom id b hb).1
    rw [hg, if_neg (by omega)]; exact H.above j hj
  own i o' b' h1 hr h2 := by
    by_cases e : i = id
    · subst e
      rw [hb] at h2; cases h2
      exact H.own i o0 b ho0 hro hb
    · rw [hg, if_neg e] at h1
      exact H.own i o' b' h1 hr h2

theorem ext_put {h' : T O} {id : Nat} {x : Option O} {b : Blk} (hb : β id = some b) (hg : ∀ j, h'.get j = if j = id then x else h.get j) : More β h n β h' n :=
  ⟨Le.refl β, Nat.le_refl n, fun i _ e => ⟨e, fun o _ ho => by
    rw [hg]; split
    · rename_i e'; subst e'; rw [hb] at e; cases e
    · exact ho⟩⟩

theorem ext_new {h' : T O} {o : O} {b : Blk} (hf : β n = none) (hg : ∀ j, h'.get j = if j = n then some o else h.get j) : More β h n (upd β n b) h' (n + 1) :=
  ⟨upd_le hf, Nat.le_succ n, fun i hi e => ⟨by simp [upd, show i ≠ n by omega, e], fun o _ ho => by rw [hg, if_neg (by omega)]; exact ho⟩⟩

theorem HR.sub {hq : T O} (H : HR W0 β h n w) (hs : ∀ j x, hq.get j = some x → h.get j = some x) : HR W0 β hq n w where
  obj id o b h1 h2 := H.obj id o b (hs _ _ h1) h2
  inj i j oi oj bi bj h1 h2 h3 h4 e := H.inj i j oi oj bi bj (hs _ _ h1) (hs _ _ h2) h3 h4 e
  dom := H.dom
  below := H.below
  above j hj := by
    cases hx : hq.get j with
    | none => rfl
    | some x => have := hs _ _ hx; rw [H.above j hj] at this; cases this
  own id o b h1 hr h2 := H.own id o b (hs _ _ h1) hr h2

/-- a cell -/
theorem HR.cell (H : HR W0 β h n w) {id off m esz : Nat} {o : O} {t : T V} {v : V} {b : Blk} (ho : h.get id = some o) (hr : o = .cells t m esz ∨ o = .ro t m esz) (hb : β id = some b) (hm : off < m)
    (hv : t.get off = some v) : ∃ x, w.cell? ⟨b.blk, b.off + off, none⟩ = some x ∧ conc β v = some x := by
  rcases hr with rfl | rfl
  · obtain ⟨c, elem, frz, h1, h2, h3, h4, h5⟩ := H.obj id _ b ho hb
    obtain ⟨x, hx, hc⟩ := h5 off v hm hv
    exact ⟨x, by simp [World.cell?, h1, hx], hc⟩
  · obtain ⟨c, elem, frz, h1, h5⟩ := H.obj id _ b ho hb
    obtain ⟨x, hx, hc⟩ := h5 off v hm hv
    exact ⟨x, by simp [World.cell?, h1, hx], hc⟩

end

theorem rCells_ok {o : O} {k : T V → Nat → Nat → Out} {r : Rz} (h : rCells o k = .ok r) : ∃ t m e, (o = .cells t m e ∨ o = .ro t m e) ∧ k t m e = .ok r := by
  cases o <;> first | exact ⟨_, _, _, .inl rfl, h⟩ | exact ⟨_, _, _, .inr rfl, h⟩ | exact (bad_ne h).elim

/-- less is known of the blocks -/
structure Rz.le (a b : Rz) : Prop where
  v : a.v = b.v
  n : a.n = b.n
  h : ∀ id o, a.h.get id = some o → b.h.get id = some o

theorem Rz.le.refl (a : Rz) : Rz.le a a := ⟨rfl, rfl, fun _ _ h => h⟩
theorem Rz.le.trans {a b c : Rz} (h : Rz.le a b) (k : Rz.le b c) : Rz.le a c := ⟨h.v.trans k.v, h.n.trans k.n, fun id o ho => k.h id o (h.h id o ho)⟩

theorem add_none (b o i : Nat) : (⟨b, o, none⟩ : Addr).add i = ⟨b, o + i, none⟩ := by
  unfold Addr.add; split <;> simp_all

theorem loadN_ok {t : T V} {off : Nat} {k : List V → Out} {r : Rz} : ∀ {n : Nat} {acc : List V}, 
    (Nat.rec (motive := fun _ => List V → Out) (fun acc => k acc) (fun m ih acc => om (t.get (Nat.add off m)) fun v => ih (v :: acc)) n acc : Out) = .ok r →
    ∃ l, k (l ++ acc) = .ok r ∧ l.length = n ∧ ∀ i v, l[i]? = some v → t.get (off + i) = some v
  | 0, acc, h => ⟨[], h, rfl, fun i v e => by simp at e⟩
  | n + 1, acc, h => by
    obtain ⟨x, hx, h⟩ := om_ok h
    obtain ⟨l, hl, hn, hg⟩ := loadN_ok h
    refine ⟨l ++ [x], by simpa using hl, by simp [hn], fun i v e => ?_⟩
    rw [List.getElem?_append] at e
    split at e
    · exact hg i v e
    · rename_i hi
      have : i = n := by
        have : i - l.length < 1 := by
          rcases Nat.lt_or_ge (i - l.length) 1 with h | h
          · exact h
          · rw [List.getElem?_eq_none (by simpa using h)] at e; cases e
        omega
      subst this
      have e0 : i - l.length = 0 := by omega
      rw [e0] at e
      simp at e; subst e
      exact hx

section
variable {W0 : World} {β : Beta} {h : T O} {n : Nat} {w : World} {P : Program}

/-- cells of a block, read -/
theorem cellsAt_ok {id off m : Nat} {k : List V → Out} {r : Rz} (e : cellsAt h id off m k = .ok r) :
    ∃ l, k l = .ok r ∧ l.length = m ∧ ∀ W0 β n w, HR W0 β h n w → ∀ b, β id = some b → ∃ vs, concL β l = some vs ∧ vs.length = m ∧
      ∀ (j : Nat) v, vs[j]? = some v → w.cell? ⟨b.blk, b.off + off + j, none⟩ = some v := by
  obtain ⟨o, ho, e⟩ := om_ok e
  obtain ⟨t, m', esz, hr, e⟩ := rCells_ok e
  · obtain ⟨hm, e⟩ := need_ok e
    have hm : off + m ≤ m' := Nat.le_of_ble_eq_true hm
    obtain ⟨l, hk, hl, hg⟩ := loadN_ok e
    refine ⟨l, by simpa using hk, hl, fun W0 β n w H b hb => ?_⟩
    have hc : ∀ (j : Nat) v, l[j]? = some v → ∃ x, w.cell? ⟨b.blk, b.off + off + j, none⟩ = some x ∧ conc β v = some x := by
      intro j v hj
      have hjl : j < l.length := by
        rcases Nat.lt_or_ge j l.length with h | h
        · exact h
        · rw [List.getElem?_eq_none h] at hj; cases hj
      have := H.cell ho hr hb (off := off + j) (by omega) (hg j v hj)
      simpa [Nat.add_assoc] using this
    let f : Nat → Value := fun j => (w.cell? ⟨b.blk, b.off + off + j, none⟩).getD undef
    refine ⟨(List.range m).map f, concL_of (by simp [hl]) fun i v hv => ?_, by simp, fun j v hj => ?_⟩
    · obtain ⟨x, hx, hcx⟩ := hc i v hv
      have hil : i < l.length := by
        rcases Nat.lt_or_ge i l.length with h | h
        · exact h
        · rw [List.getElem?_eq_none h] at hv; cases hv
      exact ⟨x, by simp [f, hx, show i < m by omega], hcx⟩
    · have hjm : j < m := by
        rcases Nat.lt_or_ge j m with h | h
        · exact h
        · rw [List.getElem?_eq_none (by simpa using h)] at hj; cases hj
      have hv : l[j]? = some l[j] := List.getElem?_eq_getElem (by omega)
      obtain ⟨x, hx, hcx⟩ := hc j _ hv
      simp [f, hx, hjm] at hj
      rw [hx, hj]

theorem cellAt_ok {id off : Nat} {k : V → Out} {r : Rz} (e : cellAt h id off k = .ok r) :
    ∃ v, k v = .ok r ∧ ∀ W0 β n w, HR W0 β h n w → ∀ b, β id = some b → ∃ x, w.cell? ⟨b.blk, b.off + off, none⟩ = some x ∧ conc β v = some x := by
  obtain ⟨o, ho, e⟩ := om_ok e
  obtain ⟨t, m', esz, hr, e⟩ := rCells_ok e
  · obtain ⟨hm, e⟩ := need_ok e
    have hm : off < m' := Nat.le_of_ble_eq_true hm
    obtain ⟨v, hv, e⟩ := om_ok e
    exact ⟨v, e, fun W0 β n w H b hb => H.cell ho hr hb hm hv⟩
end

end Go.Mir
