/- How a list of rows of terms that came in is opened. No statement of the program stands here. -/
import Derived.Test.YtnclpappnmoimaaGreatDoorAnsX
import Derived.Deep.Strs
import Derived.ProofKit
import Derived.OpenShut
set_option linter.unusedSimpArgs false
set_option linter.unusedVariables false
namespace Go.Mir
open Go Go.Proofs Go.RowKit Go.Srt Go.ChangeShapes Go.WideShapes Go.ChangeAt

theorem addrPlain {w : World} {x : Addr} {v : Value} (h : w.cell? (x.add 0) = some v) : ∃ b off, x = ⟨b, off, none⟩ ∧ w.cell? ⟨b, off + 0, none⟩ = some v := by
  obtain ⟨b, off, sp⟩ := x
  cases sp with
  | none => exact ⟨b, off, rfl, h⟩
  | some q =>
    exfalso
    unfold Addr.add World.cell? at h
    simp only [if_true] at h
    split at h <;> cases h

theorem addr_add {b off i : Nat} : (⟨b, off, none⟩ : Addr).add i = ⟨b, off + i, none⟩ := by
  unfold Addr.add
  by_cases h : i = 0 <;> simp [h]

theorem absV_slice {w : World} {b off len cap : Nat} (hb : b < w.heap.size) (hl : len ≤ cap) (hc : 0 < cap) : absV w (.slice (some ⟨b, off, none⟩) len cap) = some (.slice b off len true cap len) := by
  obtain ⟨c, rfl⟩ : ∃ c, cap = c + 1 := ⟨cap - 1, by omega⟩
  cases len with
  | zero => show (if b < w.heap.size ∧ 0 ≤ c + 1 then _ else _) = _; rw [if_pos ⟨hb, hl⟩]
  | succ l => show (if b < w.heap.size ∧ l + 1 ≤ c + 1 then _ else _) = _; rw [if_pos ⟨hb, hl⟩]

/-- a string as the machine holds it -/
def strN (s : ByteArray) : List Nat := s.data.toList.map UInt8.toNat

section
variable {H : Type} {enc : TypeId × Value → H} {P : Program} {W : World} {held : Bool} {t22 t31 t51 t49 t9 : Nat} {f0 f1 f2 : Field}

theorem open_term {fuel : Nat} {cs : List Value} {x : DataW H × List MemPlace} (U51 : P.underlying t51 = some (.struct #[f0, f1, f2])) (e0 : f0.type = t49 ∧ f0.offset = 0) (e1 : f1.type = t9 ∧ f1.offset = 1) (e2 : f2.type = t9 ∧ f2.offset = 2)
    (U49 : P.underlying t49 = some (.int .i64)) (U9 : P.underlying t9 = some .string) (C49 : P.cellsOf t49 = 1) (C9 : P.cellsOf t9 = 1) (hl : cs.length = 3)
    (h : DataW.trod enc P W 0 (fun _ => true) held fuel t51 cs = some x) : ∃ y : Int × ByteArray × ByteArray, cs = [.int .i64 y.1, .string y.2.1, .string y.2.2] := by
  obtain ⟨y0, y1, y2, n, _, _, h0, h1, h2⟩ := Go.Deep.trod_struct3 U51 h
  rw [e0.1, e0.2, C49] at h0
  rw [e1.1, e1.2, C9] at h1
  rw [e2.1, e2.2, C9] at h2
  obtain ⟨k, k0, _⟩ := DataW.trod_int U49 h0
  obtain ⟨s, s0, _⟩ := DataW.trod_string U9 h1
  obtain ⟨q, q0, _⟩ := DataW.trod_string U9 h2
  match cs, hl with
  | [a, b, c], _ =>
    simp at k0 s0 q0
    exact ⟨(k, s, q), by rw [k0, s0, q0]⟩

theorem open_row {fuel : Nat} {v : Value} {x : DataW H × List MemPlace} (U31 : P.underlying t31 = some (.slice t51)) (U51 : P.underlying t51 = some (.struct #[f0, f1, f2])) (e0 : f0.type = t49 ∧ f0.offset = 0) (e1 : f1.type = t9 ∧ f1.offset = 1) (e2 : f2.type = t9 ∧ f2.offset = 2)
    (U49 : P.underlying t49 = some (.int .i64)) (U9 : P.underlying t9 = some .string) (C51 : P.cellsOf t51 = 3) (C49 : P.cellsOf t49 = 1) (C9 : P.cellsOf t9 = 1)
    (h : DataW.trod enc P W 0 (fun _ => true) held fuel t31 [v] = some x) : ∃ y : V × List Tm, absV W v = some y.1 ∧ RowIn (heap0 W) W.heap.size y.1 y.2 := by
  rcases Go.Deep.open_slice U31 h with ⟨hcs, _⟩ | ⟨a, len, cap, m, n, D, Pl, hcs, _, hl, _, hmm, _, hx⟩
  · simp at hcs
    subst hcs
    exact ⟨(.base (.slice none 0 0), []), rfl, .nil none, fun i hi => (by cases hi)⟩
  · simp at hcs
    subst hcs
    simp only [if_true] at hmm
    subst hmm
    by_cases c0 : m = 0
    · subst c0
      obtain rfl : len = 0 := by omega
      exact ⟨(.base (.slice (some a) 0 0), []), rfl, .nil (some a), fun i hi => (by cases hi)⟩
    · have hcell : ∀ i, i < m → ∃ y : Int × ByteArray × ByteArray, W.cell? (a.add (i * 3)) = some (.int .i64 y.1) ∧ W.cell? (a.add (i * 3 + 1)) = some (.string y.2.1) ∧ W.cell? (a.add (i * 3 + 2)) = some (.string y.2.2) := fun i hi => by
        obtain ⟨cs', h1, h2⟩ := hx i hi
        rw [C51] at h1
        obtain ⟨_, hlen, hc⟩ := World.cells?_some h1
        obtain ⟨y, rfl⟩ := open_term U51 e0 e1 e2 U49 U9 C49 C9 hlen h2
        refine ⟨y, ?_, ?_, ?_⟩
        · have := hc 0 (by omega)
          rw [Go.Deep.add_add] at this; exact this
        · have := hc 1 (by omega)
          rw [Go.Deep.add_add] at this; exact this
        · have := hc 2 (by omega)
          rw [Go.Deep.add_add] at this; exact this
      obtain ⟨y, hy⟩ := Go.Deep.choose_lt hcell
      obtain ⟨b, off, rfl, h00⟩ := addrPlain (x := a) (hy 0 (by omega)).1
      obtain ⟨c, g1, g2, g3, g4⟩ := cell_given W h00
      simp only [addr_add] at hy
      have get : ∀ {j : Nat} {u : Value}, W.cell? ⟨b, off + j, none⟩ = some u → off + j < c.size ∧ (cellsT W c).get (off + j) = absV W u := fun hj => by
        obtain ⟨c', k1, k2, k3, _⟩ := cell_given W hj
        rw [g1] at k1
        injection k1 with k1
        injection k1 with k4 k5
        rw [k4, k5]; exact ⟨k2, k3⟩
      refine ⟨(.slice b off len true m len, (List.range len).map fun i => ((y i).1, strN (y i).2.1, strN (y i).2.2)), absV_slice g4 hl (by omega), ?_, fun i hi => (by cases hi; exact g4)⟩
      have e : ((List.range len).map fun i => ((y i).1, strN (y i).2.1, strN (y i).2.2)).length = len := by simp
      unfold Row
      rw [e]
      refine .slice _ _ _ _ _ _ (Nat.le_refl _) ⟨_, cellsT W c, c.size, 1, g1, .inr rfl, ?_, fun j hj => ?_⟩
      · by_cases l0 : len = 0
        · subst l0; have := (get (j := 0) h00).1; omega
        · have := (get (hy (len - 1) (by omega)).2.2).1; omega
      · have hq : j / 3 < len := by omega
        obtain ⟨z0, z1, z2⟩ := hy (j / 3) (by omega)
        have hr : ((List.range len).map fun i => ((y i).1, strN (y i).2.1, strN (y i).2.2)).getD (j / 3) (0, [], []) = ((y (j / 3)).1, strN (y (j / 3)).2.1, strN (y (j / 3)).2.2) := by
          rw [List.getD_eq_getElem?_getD, List.getElem?_map, List.getElem?_range hq]; rfl
        unfold rowG
        rw [hr]
        rcases (by omega : j % 3 = 0 ∨ j % 3 = 1 ∨ j % 3 = 2) with r | r | r
        · rw [if_pos r]
          have := (get z0).2
          rw [show j / 3 * 3 = j by omega] at this
          exact this
        · rw [if_neg (by omega), if_pos r]
          have := (get z1).2
          rw [show j / 3 * 3 + 1 = j by omega] at this
          exact this
        · rw [if_neg (by omega), if_neg (by omega)]
          have := (get z2).2
          rw [show j / 3 * 3 + 2 = j by omega] at this
          exact this

theorem open_rows {base : Nat} {v : Value} {d : DataW H} {p : List MemPlace} (U22 : P.underlying t22 = some (.slice t31)) (U31 : P.underlying t31 = some (.slice t51)) (U51 : P.underlying t51 = some (.struct #[f0, f1, f2])) (e0 : f0.type = t49 ∧ f0.offset = 0) (e1 : f1.type = t9 ∧ f1.offset = 1) (e2 : f2.type = t9 ∧ f2.offset = 2)
    (U49 : P.underlying t49 = some (.int .i64)) (U9 : P.underlying t9 = some .string) (C31 : P.cellsOf t31 = 1) (C51 : P.cellsOf t51 = 3) (C49 : P.cellsOf t49 = 1) (C9 : P.cellsOf t9 = 1)
    (hv : Value.okWide P W .any base t22 v) (h : DataW.Trod enc P W 0 (fun _ => true) held t22 v d p) : ∃ va l, absV W v = some va ∧ RowsIn (heap0 W) W.heap.size va l := by
  obtain ⟨a, len, cap, rfl⟩ := okWide_slice U22 hv
  obtain ⟨fuel, hf⟩ := h
  rcases Go.Deep.open_slice1 U22 C31 hf with ⟨hcs, _⟩ | ⟨a, len, cap, m, n, X, D, Pl, hcs, _, hl, _, hmm, _, hx⟩
  · simp [Value.cells] at hcs
    obtain ⟨rfl, rfl, rfl⟩ := hcs
    exact ⟨.base (.slice none 0 0), [], rfl, fun i hi => (by cases hi), fun _ => undefV, .nil none, fun i hi => absurd hi (by simp)⟩
  · simp [Value.cells] at hcs
    obtain ⟨rfl, rfl, rfl⟩ := hcs
    simp only [if_true] at hmm
    subst hmm
    by_cases c0 : m = 0
    · subst c0
      obtain rfl : len = 0 := by omega
      exact ⟨.base (.slice (some a) 0 0), [], rfl, fun i hi => (by cases hi), fun _ => undefV, .nil (some a), fun i hi => absurd hi (by simp)⟩
    · haveI : Inhabited (V × List Tm) := ⟨(undefV, [])⟩
      obtain ⟨y, hy⟩ := Go.Deep.choose_lt (α := V × List Tm) fun i (hi : i < m) => open_row U31 U51 e0 e1 e2 U49 U9 C51 C49 C9 (hx i hi).2
      obtain ⟨b, off, rfl, h00⟩ := addrPlain (hx 0 (by omega)).1
      obtain ⟨c, g1, g2, g3, g4⟩ := cell_given W h00
      have hcell : ∀ i, i < m → W.cell? ⟨b, off + i, none⟩ = some (X i) := fun i hi => by
        have := (hx i hi).1
        rwa [addr_add] at this
      have get : ∀ {j : Nat} {u : Value}, W.cell? ⟨b, off + j, none⟩ = some u → off + j < c.size ∧ (cellsT W c).get (off + j) = absV W u := fun hj => by
        obtain ⟨c', k1, k2, k3, _⟩ := cell_given W hj
        rw [g1] at k1
        injection k1 with k1
        injection k1 with k4 k5
        rw [k4, k5]; exact ⟨k2, k3⟩
      refine ⟨.slice b off len true m len, (List.range len).map fun i => (y i).2, absV_slice g4 hl (by omega), fun i hi => (by cases hi; exact g4), fun i => (y i).1, ?_, fun i hi => ?_⟩
      · have e : ((List.range len).map fun i => (y i).2).length = len := by simp
        rw [e]
        refine .slice _ _ _ _ _ _ (Nat.le_refl _) ⟨_, cellsT W c, c.size, 1, g1, .inr rfl, ?_, fun j hj => ?_⟩
        · by_cases l0 : len = 0
          · subst l0; have := (get (j := 0) h00).1; omega
          · have := (get (hcell (len - 1) (by omega))).1; omega
        · rw [(get (hcell j (by omega))).2]
          exact (hy j (by omega)).1
      · have hi : i < len := by simpa using hi
        rw [List.getD_eq_getElem?_getD, List.getElem?_map, List.getElem?_range hi]
        exact (hy i (by omega)).2
end
end Go.Mir
