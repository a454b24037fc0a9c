/- How a look-up and a list of bools that came in are opened. No condition. -/
import Derived.Test.YtbdjdkfjbbhoeaaW7
import Derived.ProofKit
import Derived.OpenShut
import Derived.ChangeOld
import Derived.Below
import Derived.Deep.Grids
namespace Go.Proofs.Ytbdjdkfjbbhoeaa
open Go.ChangeShapes Go.WideShapes Go.ChangeAt Go.RowKit

theorem cell_float {P : Program} {w : World} {r : Reach} {b0 : Nat} {t : TypeId} {k : FloatKind} {v : Value} (ht : P.underlying t = some (.float k)) (h : Cell.okWide P w r b0 t v) : ∃ b, v = .float k b := by
  simp only [Cell.okWide, Cell.ok, ht] at h
  cases v <;> simp_all
theorem cell_int {P : Program} {w : World} {r : Reach} {b0 : Nat} {t : TypeId} {k : IntKind} {v : Value} (ht : P.underlying t = some (.int k)) (h : Cell.okWide P w r b0 t v) : ∃ n, v = .int k n := by
  simp only [Cell.okWide, Cell.ok, ht] at h
  cases v <;> simp_all

theorem array7 {α : Type} {cs : Array α} (h : cs.size = 7) : ∃ a b c d e f g, cs = #[a, b, c, d, e, f, g] := by
  obtain ⟨l⟩ := cs
  match l, h with
  | [a, b, c, d, e, f, g], _ => exact ⟨a, b, c, d, e, f, g, rfl⟩

theorem lookTypes : Try.prog.cellTypes Try.prog.depth 26 = some [22, 3, 3, 3, 22, 22, 22] := by kernel_rfl

theorem open_look {W : World} {base : Nat} {v : Value} (h : Value.okWide Try.prog W .any base 26 v) :
    ∃ (x0 : Nat) (v0 v1 v2 : Int) (d0 d1 d2 : Nat), v = .agg #[.float .f64 x0, .int .i64 v0, .int .i64 v1, .int .i64 v2, .float .f64 d0, .float .f64 d1, .float .f64 d2] := by
  unfold Value.okWide at h
  rw [Try.underlying26] at h
  obtain ⟨cs, rfl, hs, ts, hts, _, hall⟩ := h
  rw [lookTypes] at hts
  cases hts
  obtain ⟨c0, c1, c2, c3, c4, c5, c6, rfl⟩ := array7 (hs.trans (by kernel_rfl : Try.prog.cellsOf 26 = 7))
  obtain ⟨u, hu, h0⟩ := hall 0 c0 rfl
  cases hu; obtain ⟨x0, rfl⟩ := cell_float Try.underlying22 h0
  obtain ⟨u, hu, h0⟩ := hall 1 c1 rfl
  cases hu; obtain ⟨v0, rfl⟩ := cell_int Try.underlying3 h0
  obtain ⟨u, hu, h0⟩ := hall 2 c2 rfl
  cases hu; obtain ⟨v1, rfl⟩ := cell_int Try.underlying3 h0
  obtain ⟨u, hu, h0⟩ := hall 3 c3 rfl
  cases hu; obtain ⟨v2, rfl⟩ := cell_int Try.underlying3 h0
  obtain ⟨u, hu, h0⟩ := hall 4 c4 rfl
  cases hu; obtain ⟨d0, rfl⟩ := cell_float Try.underlying22 h0
  obtain ⟨u, hu, h0⟩ := hall 5 c5 rfl
  cases hu; obtain ⟨d1, rfl⟩ := cell_float Try.underlying22 h0
  obtain ⟨u, hu, h0⟩ := hall 6 c6 rfl
  cases hu; obtain ⟨d2, rfl⟩ := cell_float Try.underlying22 h0
  exact ⟨x0, v0, v1, v2, d0, d1, d2, rfl⟩

theorem addr_of_cell {w : World} {x : Addr} {j : Nat} {v : Value} (h : w.cell? (x.add j) = some v) (h0 : w.cell? (x.add 0) = none → False) : ∃ b off, x = ⟨b, off, none⟩ := by
  obtain ⟨b, off, sp⟩ := x
  cases sp with
  | none => exact ⟨b, off, rfl⟩
  | some q =>
    exfalso
    apply h0
    unfold Addr.add World.cell?
    simp only [if_true]
    split <;> rfl

section
variable {H : Type} {enc : TypeId × Value → H}
/-- a slice of bools that came in -/
theorem open_known {W : World} {base : Nat} {v : Value} {d : DataW H} {p : List MemPlace} (hv : Value.okWide Try.prog W .any base 27 v)
    (h : DataW.Trod enc Try.prog W 0 (fun _ => true) true 27 v d p) :
    ∃ (a : Option Addr) (n cap : Nat), v = .slice a n cap ∧ ∃ ks : List Bool, ks.length = n ∧ BoolsAt W a ks ∧ (∀ b, a = some b → 0 < ks.length → b.block < W.heap.size) ∧ (a = none → ks = [] ∧ cap = 0) := by
  obtain ⟨a, n, cap, rfl⟩ := okWide_slice Try.underlying27 hv
  obtain ⟨fuel, hf⟩ := h
  rcases Go.Deep.open_bools Try.underlying27 Try.underlying4 (by kernel_rfl) hf with ⟨hcs, _⟩ | ⟨x, l, c, B, hcs, _, hl, hm, hx, hcell⟩
  · simp [Value.cells] at hcs
    obtain ⟨rfl, rfl, rfl⟩ := hcs
    exact ⟨none, 0, 0, rfl, [], rfl, fun j hj => absurd hj (Nat.not_lt_zero _), (fun b e => by cases e), (fun _ => ⟨rfl, rfl⟩)⟩
  · simp [Value.cells] at hcs
    obtain ⟨rfl, rfl, rfl⟩ := hcs
    have hadd : ∀ j, j < n → ∃ b off, x = ⟨b, off, none⟩ ∧ W.cell? ⟨b, off + j, none⟩ = some (.bool (B j)) := by
      intro j hj
      have h1 := hcell j (by omega)
      obtain ⟨b, off, rfl⟩ := addr_of_cell h1 (fun h => by rw [hcell 0 (by omega)] at h; cases h)
      refine ⟨b, off, rfl, ?_⟩
      unfold Addr.add at h1
      split at h1
      · rename_i h0; subst h0; exact h1
      · exact h1
    refine ⟨some x, n, cap, rfl, (List.range n).map B, by simp, fun j hj => ?_, fun b e h0 => ?_, fun e => by cases e⟩
    · have hj' : j < n := by simpa using hj
      obtain ⟨b, off, rfl, h2⟩ := hadd j hj'
      refine ⟨b, off, rfl, ?_⟩
      rw [h2, List.getD_eq_getElem?_getD, List.getElem?_map, List.getElem?_range hj']; rfl
    · cases e
      obtain ⟨b, off, rfl, h2⟩ := hadd 0 (by simpa using h0)
      exact World.block_lt_of_cell? W _ h2
end
end Go.Proofs.Ytbdjdkfjbbhoeaa

