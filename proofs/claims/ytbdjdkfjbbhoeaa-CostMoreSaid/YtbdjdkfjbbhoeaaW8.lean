/- The plain list that CostMore builds, and slices of bools of the call's own. No condition. -/
import Derived.Test.YtbdjdkfjbbhoeaaMono3
namespace Go.Proofs.Ytbdjdkfjbbhoeaa
open Go.RowKit

def bothF (a b : List Bool) (k : Nat) : List Bool := (List.range (max a.length k)).map fun i => a.getD i false || (decide (i < k) && b.getD i false)

theorem bothF_len (a b : List Bool) (k : Nat) : (bothF a b k).length = max a.length k := by unfold bothF; simp
theorem bothF_get (a b : List Bool) (k i : Nat) (h : i < max a.length k) : (bothF a b k)[i]? = some (a.getD i false || (decide (i < k) && b.getD i false)) := by
  unfold bothF
  rw [List.getElem?_map, List.getElem?_range h]; rfl
theorem getD_ge (a : List Bool) (i : Nat) (h : a.length ≤ i) : a.getD i false = false := by
  rw [List.getD_eq_getElem?_getD, List.getElem?_eq_none h]; rfl
theorem bothF_zero (a b : List Bool) : bothF a b 0 = a := by
  apply List.ext_getElem?
  intro i
  by_cases h : i < a.length
  · rw [bothF_get a b 0 i (by omega), List.getElem?_eq_getElem h, List.getD_eq_getElem?_getD, List.getElem?_eq_getElem h]; simp
  · rw [List.getElem?_eq_none (by rw [bothF_len]; omega), List.getElem?_eq_none (by omega)]
theorem bothF_more (a b : List Bool) (k : Nat) : ∀ i, a.getD i false = true → (bothF a b k).getD i false = true := by
  intro i h
  have hi : i < a.length := by
    rcases Nat.lt_or_ge i a.length with h1 | h1
    · exact h1
    · rw [getD_ge a i h1] at h; cases h
  rw [List.getD_eq_getElem?_getD, bothF_get a b k i (by omega), h]; rfl

theorem bothF_set (a b : List Bool) (k : Nat) (h : k < a.length) : bothF a b (k + 1) = (bothF a b k).set k (a.getD k false || b.getD k false) := by
  apply List.ext_getElem?
  intro i
  rw [List.getElem?_set]
  by_cases hi : i < a.length
  · rw [bothF_get a b (k + 1) i (by omega)]
    by_cases e : k = i
    · subst e
      rw [if_pos rfl, if_pos (by rw [bothF_len]; omega)]; simp
    · rw [if_neg e, bothF_get a b k i (by omega)]
      have : decide (i < k + 1) = decide (i < k) := decide_eq_decide.2 (by omega)
      rw [this]
  · rw [List.getElem?_eq_none (by rw [bothF_len]; omega)]
    by_cases e : k = i
    · omega
    · rw [if_neg e, List.getElem?_eq_none (by rw [bothF_len]; omega)]

theorem bothF_push (a b : List Bool) (k : Nat) (h : a.length ≤ k) : bothF a b (k + 1) = (bothF a b k ++ [false]).set k (b.getD k false) := by
  have hl : (bothF a b k).length = k := by rw [bothF_len]; omega
  apply List.ext_getElem?
  intro i
  rw [List.getElem?_set]
  by_cases hi : i < k + 1
  · rw [bothF_get a b (k + 1) i (by omega)]
    by_cases e : k = i
    · subst e
      rw [if_pos rfl, if_pos (by simp [hl]), getD_ge a k h]; simp
    · rw [if_neg e, List.getElem?_append_left (by rw [hl]; omega), bothF_get a b k i (by omega)]
      have : decide (i < k + 1) = decide (i < k) := decide_eq_decide.2 (by omega)
      rw [this]
  · rw [List.getElem?_eq_none (by rw [bothF_len]; omega), if_neg (by omega), List.getElem?_eq_none (by simp [hl]; omega)]

theorem info4 : (Try.prog.info? 4).map (fun i => (i.zero, i.size, i.bytes)) = some (some (.bool false), 1, 1) := by kernel_rfl

theorem owns_some {w : World} {base : Nat} {e : TypeId} {v : Value} {n : Nat} {xs : List Value} (h : w.ownsRow base e 1 v n xs) (hn : 0 < n) :
    ∃ g cap, v = .slice (some ⟨g, 0, none⟩) n cap ∧ base ≤ g := by
  obtain ⟨hl, ⟨rfl, h0⟩ | ⟨g, cap, cur, rfl, hg, _⟩⟩ := h
  · omega
  · exact ⟨g, cap, rfl, hg⟩
theorem owns_slice {w : World} {base : Nat} {e : TypeId} {v : Value} {n : Nat} {xs : List Value} (h : w.ownsRow base e 1 v n xs) :
    ∃ a cap, v = .slice a n cap := by
  obtain ⟨hl, ⟨rfl, h0⟩ | ⟨g, cap, cur, rfl, hg, _⟩⟩ := h
  · exact ⟨none, 0, by rw [h0]⟩
  · exact ⟨_, cap, rfl⟩

theorem owns_bools {w : World} {base n : Nat} {v : Value} {ks : List Bool} (h : w.ownsRow base 4 1 v n (ks.map Value.bool)) (hn : n = ks.length) :
    ∃ a cap, v = .slice a ks.length cap ∧ BoolsAt w a ks ∧ ∀ b, a = some b → 0 < ks.length → b.block < w.heap.size := by
  subst hn
  by_cases h0 : 0 < ks.length
  · obtain ⟨g, cap, rfl, hg⟩ := owns_some h h0
    refine ⟨_, cap, rfl, fun j hj => ⟨g, 0, rfl, ?_⟩, fun b e _ => ?_⟩
    · rw [Nat.zero_add, h.cellAt j (by omega), List.getElem?_map, List.getElem?_eq_getElem hj, List.getD_eq_getElem?_getD, List.getElem?_eq_getElem hj]; rfl
    · cases e
      exact (h.lt g rfl).2
  · obtain ⟨a, cap, rfl⟩ := owns_slice h
    exact ⟨a, cap, rfl, fun j hj => by omega, fun b e h => absurd h h0⟩

/-- the sources of the copy -/
theorem news_bools {w : World} {x : Addr} {ks : List Bool} (h : BoolsAt w (some x) ks) : ∀ j u, (ks.map Value.bool)[j]? = some u → w.cell? (x.add j) = some u := by
  intro j u hu
  rw [List.getElem?_map] at hu
  cases hk : ks[j]? with
  | none => rw [hk] at hu; cases hu
  | some c =>
    rw [hk] at hu; cases hu
    have hj : j < ks.length := by
      rcases Nat.lt_or_ge j ks.length with h1 | h1
      · exact h1
      · rw [List.getElem?_eq_none h1] at hk; cases hk
    obtain ⟨b, off, e, hc⟩ := h j hj
    cases e
    have e2 : ks.getD j false = c := by rw [List.getD_eq_getElem?_getD, hk]; rfl
    rw [e2] at hc
    unfold Addr.add
    split
    · rename_i h0; subst h0; exact hc
    · exact hc
theorem ones_bools (ks : List Bool) : ∀ u ∈ ks.map Value.bool, u.oneCell' = true := by
  intro u hu
  obtain ⟨b, _, rfl⟩ := List.mem_map.1 hu
  rfl
end Go.Proofs.Ytbdjdkfjbbhoeaa
