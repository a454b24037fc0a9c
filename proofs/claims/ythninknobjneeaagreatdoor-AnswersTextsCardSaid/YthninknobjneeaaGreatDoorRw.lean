/- Rows of terms in the memory; new blocks. No walk, no statement of the program stands here. -/
import Derived.Test.YthninknobjneeaaGreatDoorWG
set_option linter.unusedSimpArgs false
set_option linter.unusedVariables false
namespace Go.Mir
open Go
set_option maxRecDepth 4000
set_option maxHeartbeats 1000000

/-- v is a list of these rows -/
def Rows (h : T O) (v : V) (ls : List (List Tm)) : Prop := ∃ g : Nat → V, Sl h 1 g v ls.length ∧ ∀ i, i < ls.length → Row h (g i) (ls.getD i [])

theorem Rows.len {h : T O} {v : V} {ls : List (List Tm)} (R : Rows h v ls) {e : Nat} {k : V → Out} : lenIn h (.slice e) v k = k (.int .i64 (ls.length : Int)) := by
  obtain ⟨g, S, _⟩ := R
  exact Sl.len S

/-- a row of a list -/
theorem Rows.get {h : T O} {v : V} {ls : List (List Tm)} (R : Rows h v ls) {i : Nat} (hi : i < ls.length) : ∃ id off ex k lo r, v = .slice id off ls.length ex k lo ∧ ls.length ≤ lo ∧
    (∀ (kk : V → Out), cellAt h id (off + i) kk = kk r) ∧ Row h r (ls.getD i []) := by
  obtain ⟨g, S, hr⟩ := R
  generalize hL : ls.length = L at S
  cases S with
  | nil => omega
  | tail => omega
  | slice id off len ex k lo hlo C =>
    exact ⟨id, off, ex, k, lo, g i, rfl, by omega, fun kk => C.at (j := i) (by omega) rfl, hr i hi⟩

def Small (ls : List (List Tm)) : Prop := ∀ i, i < ls.length → (ls.getD i []).length ≤ 1000000


/-- new blocks only -/
def Gro (h : T O) (n : Nat) (h' : T O) (n' : Nat) : Prop := n ≤ n' ∧ ∀ j, j < n → h'.get j = h.get j

theorem Gro.refl (h : T O) (n : Nat) : Gro h n h n := ⟨Nat.le_refl n, fun _ _ => rfl⟩
theorem Gro.trans {h h' h'' : T O} {n n' n'' : Nat} (a : Gro h n h' n') (b : Gro h' n' h'' n'') : Gro h n h'' n'' := ⟨Nat.le_trans a.1 b.1, fun j hj => (b.2 j (Nat.lt_of_lt_of_le hj a.1)).trans (a.2 j hj)⟩
theorem Gro.put {h h' : T O} {n n' : Nat} (a : Gro h n h' n') (o : O) : Gro h n (h'.put n' (some o)) (n' + 1) := ⟨Nat.le_succ_of_le a.1, fun j hj => by
  rw [T.get_put, if_neg (by have := a.1; omega)]; exact a.2 j hj⟩

theorem Gro.set {h h' : T O} {n n' : Nat} (a : Gro h n h' n') {j : Nat} (hj : n ≤ j) (x : Option O) : Gro h n (h'.put j x) n' := ⟨a.1, fun i hi => by
  rw [T.get_put, if_neg (by omega)]; exact a.2 i hi⟩
theorem Gro.up {h h' : T O} {n n' : Nat} (a : Gro h n h' n') {m : Nat} (hm : n' ≤ m) : Gro h n h' m := ⟨Nat.le_trans a.1 hm, a.2⟩

/-- where a value's blocks lie -/
def RowIn (h : T O) (n : Nat) (v : V) (l : List Tm) : Prop := Row h v l ∧ ∀ id, vid v = some id → id < n
def RowsIn (h : T O) (n : Nat) (v : V) (ls : List (List Tm)) : Prop := (∀ id, vid v = some id → id < n) ∧ ∃ g : Nat → V, Sl h 1 g v ls.length ∧ ∀ i, i < ls.length → RowIn h n (g i) (ls.getD i [])

theorem RowIn.ext {h h' : T O} {n n' : Nat} {v : V} {l : List Tm} (R : RowIn h n v l) (E : Gro h n h' n') : RowIn h' n' v l :=
  ⟨R.1.keep fun id hv => E.2 id (R.2 id hv), fun id hv => Nat.lt_of_lt_of_le (R.2 id hv) E.1⟩
theorem RowsIn.ext {h h' : T O} {n n' : Nat} {v : V} {ls : List (List Tm)} (R : RowsIn h n v ls) (E : Gro h n h' n') : RowsIn h' n' v ls := by
  obtain ⟨h1, g, S, hr⟩ := R
  exact ⟨fun id hv => Nat.lt_of_lt_of_le (h1 id hv) E.1, g, S.keep fun id hv => E.2 id (h1 id hv), fun i hi => (hr i hi).ext E⟩
theorem RowsIn.rows {h : T O} {n : Nat} {v : V} {ls : List (List Tm)} (R : RowsIn h n v ls) : Rows h v ls := by
  obtain ⟨h1, g, S, hr⟩ := R
  exact ⟨g, S, fun i hi => (hr i hi).1⟩


/-- a term's texts, each by its own address -/
theorem Row.cells {h : T O} {v : V} {l : List Tm} (R : Row h v l) {i : Nat} (hi : i < l.length) : ∃ id off ex k lo, v = .slice id off l.length ex k lo ∧ l.length ≤ lo ∧
    (∀ (kk : V → Out), cellAt h id (off + i * 3 + 1) kk = kk (.str (l.getD i (0, [], [])).2.1)) ∧ ∀ (kk : V → Out), cellAt h id (off + i * 3 + 2) kk = kk (.str (l.getD i (0, [], [])).2.2) := by
  unfold Row at R
  generalize hL : l.length = L at R
  cases R with
  | nil => omega
  | tail => omega
  | slice id off len ex k lo hlo C =>
    refine ⟨id, off, ex, k, lo, rfl, by omega, fun kk => ?_, fun kk => ?_⟩
    · rw [C.at (j := i * 3 + 1) (by omega) (by omega), rowG_1]
    · rw [C.at (j := i * 3 + 2) (by omega) (by omega), rowG_2]

theorem minE {L : Nat} : (if (30001 : Int) < (L : Int) then (30001 : Int) else (L : Int)) = ((min L 30001 : Nat) : Int) := by
  split <;> omega

/-- few rows, and all of them short -/
def Few (la : List (List Tm)) : Prop := la.length ≤ 100 ∧ ∀ i, i < la.length → (la.getD i []).length ≤ 100

end Go.Mir
