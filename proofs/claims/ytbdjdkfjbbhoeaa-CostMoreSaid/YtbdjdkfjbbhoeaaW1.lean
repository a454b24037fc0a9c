/- The walks of plain, Plain, Less, slices.Index, slices.Contains and of the closure of cost.Size. Conditions: lists of at most 100 elements. -/
import Derived.Test.YtbdjdkfjbbhoeaaRows
import Derived.WalkKit
import Derived.WalkSpells
import Derived.WalkLawsBesides
import Derived.Lib.Hide
namespace Go.Proofs.Ytbdjdkfjbbhoeaa
open Go.RowKit

/-- the bits of a number, or 0, if it is none -/
def pl (x : Nat) : Nat := if (FloatKind.f64.format.order x x != some .eq) = true then 0 else x

set_option maxHeartbeats 400000 in
theorem plain_any (x : Nat) (w : World) :
    Calls Try.prog 16 #[.float .f64 x] w fun e w' => e = .returned (.float .f64 (pl x)) ∧ w = w' := by
  by_cases h : (FloatKind.f64.format.order x x != some .eq) = true
  · have hp : Hid (pl x = 0) := by unfold Hid; unfold pl; rw [if_pos h]
    go_enter Try.func16, Try.ntmps16
    go_wp2
    go_ret
    exact ⟨by rw [hp.out]; rfl, rfl⟩
  · have hp : Hid (pl x = x) := by unfold Hid; unfold pl; rw [if_neg h]
    have h' : (FloatKind.f64.format.order x x != some .eq) = false := by simpa using h
    clear h
    go_enter Try.func16, Try.ntmps16
    go_wp2
    go_ret
    exact ⟨by rw [hp.out]; rfl, rfl⟩

set_option maxHeartbeats 400000 in
theorem Plain_any (x : Nat) (w : World) :
    Calls Try.prog 11 #[.float .f64 x] w fun e w' => e = .returned (.float .f64 (pl x)) ∧ w = w' := by
  by_cases h : (FloatKind.f64.format.order x x != some .eq) = true
  · have hp : Hid (pl x = 0) := by unfold Hid; unfold pl; rw [if_pos h]
    go_enter Try.func11, Try.ntmps11
    go_wp2
    go_ret
    exact ⟨by rw [hp.out]; rfl, rfl⟩
  · have hp : Hid (pl x = x) := by unfold Hid; unfold pl; rw [if_neg h]
    have h' : (FloatKind.f64.format.order x x != some .eq) = false := by simpa using h
    clear h
    go_enter Try.func11, Try.ntmps11
    go_wp2
    go_ret
    exact ⟨by rw [hp.out]; rfl, rfl⟩

def lessB (a b : Nat) : Bool := FloatKind.f64.format.order (pl a) (pl b) == some .lt

set_option maxHeartbeats 400000 in
theorem less_any (a b : Nat) (w : World) :
    Calls Try.prog 12 #[.float .f64 a, .float .f64 b] w fun e w' => e = .returned (.bool (lessB a b)) ∧ w = w' := by
  go_enter Try.func12, Try.ntmps12
  go_wp2_with (go_at_call 16; refine (plain_any _ _).mono ?_; rintro e w' ⟨rfl, rfl⟩)
  go_ret
  exact ⟨rfl, rfl⟩

/-- is a number among the first i -/
def memB (zs : List Int) (i : Nat) (v : Int) : Bool := (zs.take i).contains v

theorem memB_succ_yes (zs : List Int) (i n : Nat) (v : Int) (hi : i < n) (hn : n ≤ zs.length) (h : v = zs.getD i 0) : memB zs n v = true := by
  unfold memB
  rw [List.contains_iff_mem]
  refine List.mem_of_getElem? (i := i) ?_
  rw [List.getElem?_take, if_pos hi, h, List.getD_eq_getElem?_getD, List.getElem?_eq_getElem (by omega)]
  rfl

theorem memB_none (zs : List Int) (n : Nat) (v : Int) (hn : n ≤ zs.length) (h : ∀ j, j < n → zs.getD j 0 ≠ v) : memB zs n v = false := by
  unfold memB
  rw [Bool.eq_false_iff]
  intro hc
  rw [List.contains_iff_mem] at hc
  obtain ⟨j, hj, hv⟩ := List.mem_iff_getElem.1 hc
  rw [List.length_take] at hj
  refine h j (by omega) ?_
  rw [List.getElem_take] at hv
  rw [List.getD_eq_getElem?_getD, List.getElem?_eq_getElem (by omega), Option.getD_some]
  exact hv

def idxSpec (zs : List Int) (n : Nat) (v : Int) (r : Int) : Prop := (memB zs n v = true ∧ 0 ≤ r) ∨ (memB zs n v = false ∧ r = -1)

set_option maxHeartbeats 1000000 in
theorem index_any (b off n cap : Nat) (zs : List Int) (v : Int) (w : World) (hn : n ≤ zs.length) (hm : zs.length ≤ 100)
    (hc : ∀ j, j < n → w.cell? ⟨b, off + j, none⟩ = some (.int .i64 (zs.getD j 0))) :
    Calls Try.prog 18 #[.slice (some ⟨b, off, none⟩) n cap, .int .i64 v] w fun e w' => (∃ r : Int, e = .returned (.int .i64 r) ∧ idxSpec zs n v r) ∧ w = w' := by
  have HC := Lib.hid hc
  clear hc
  go_enter Try.func18, Try.ntmps18
  go_wp2
  go_loop [5, 8] (fun _ i => ∃ k : Nat, k ≤ n ∧ i = .int .i64 k ∧ ∀ j, j < k → zs.getD j 0 ≠ v) (fun _ i => n - (intOf i).toNat)
  case atStart => exact ⟨0, Nat.zero_le _, rfl, fun j hj => by omega⟩
  case round =>
    obtain ⟨k, hk, rfl, hne⟩ := hrel
    have HN := Lib.hid hne
    clear hne
    by_cases hlt : k < n
    · have hcell := HC.out k hlt
      generalize hz : zs.getD k 0 = z at hcell
      have HZ := Lib.hid hz
      clear hz
      by_cases hv : v = z
      · subst hv
        go_wp2
        go_ret
        exact ⟨⟨_, rfl, .inl ⟨memB_succ_yes zs k n v hlt hn HZ.out.symm, by omega⟩⟩, rfl⟩
      · have hvv : (v == z) = false := by simpa using hv
        go_wp2
        go_round
        case rel =>
          refine ⟨k + 1, by omega, by go_num, fun j hj => ?_⟩
          rcases Nat.lt_or_ge j k with h | h
          · exact HN.out j h
          · have : j = k := by omega
            subst this
            rw [HZ.out]
            exact fun h => hv h.symm
        case measure => simp [intOf]; omega
    · go_wp2
      go_ret
      have hkn : k = n := by omega
      subst hkn
      exact ⟨⟨_, rfl, .inr ⟨memB_none zs _ v hn HN.out, rfl⟩⟩, rfl⟩

set_option maxHeartbeats 1000000 in
theorem contains_any (b off n cap : Nat) (zs : List Int) (v : Int) (w : World) (hn : n ≤ zs.length) (hm : zs.length ≤ 100)
    (hc : ∀ j, j < n → w.cell? ⟨b, off + j, none⟩ = some (.int .i64 (zs.getD j 0))) :
    Calls Try.prog 17 #[.slice (some ⟨b, off, none⟩) n cap, .int .i64 v] w fun e w' => e = .returned (.bool (memB zs n v)) ∧ w = w' := by
  have HC := Lib.hid hc
  clear hc
  go_enter Try.func17, Try.ntmps17
  go_wp2_with fail
  refine (index_any b off n cap zs v _ hn hm HC.out).mono ?_
  rintro e w' ⟨⟨r, rfl, hr⟩, rfl⟩
  rcases hr with ⟨h1, h2⟩ | ⟨h1, h2⟩
  · have hd : decide (r ≥ 0) = true := by simpa using h2
    have H1 := Lib.hid h1
    clear h1
    go_wp2
    go_ret
    exact ⟨by rw [H1.out]; rfl, rfl⟩
  · subst h2
    have H1 := Lib.hid h1
    clear h1
    go_wp2
    go_ret
    exact ⟨by rw [H1.out]; rfl, rfl⟩

/-- is a variable among the known ones -/
def knB (ks : List Bool) (v : Int) : Bool := ks.getD v.toNat false

/-- a slice of bools in memory -/
def BoolsAt (w : World) (a : Option Addr) (ks : List Bool) : Prop :=
  ∀ j, j < ks.length → ∃ b off, a = some ⟨b, off, none⟩ ∧ w.cell? ⟨b, off + j, none⟩ = some (.bool (ks.getD j false))

set_option maxHeartbeats 1000000 in
theorem known_any (v : Int) (kb cap : Nat) (a : Option Addr) (ks : List Bool) (w : World) (hv : 0 ≤ v) (_hm : ks.length ≤ 100)
    (hk : w.cell? ⟨kb, 0, none⟩ = some (.slice a ks.length cap)) (hc : BoolsAt w a ks) :
    Calls Try.prog 15 #[.int .i64 v, .pointer (some ⟨kb, 0, none⟩)] w fun e w' => e = .returned (.bool (knB ks v)) ∧ w = w' := by
  have HC := Lib.hid hc
  clear hc
  obtain ⟨n, rfl⟩ := Int.eq_ofNat_of_zero_le hv
  by_cases hlt : n < ks.length
  · obtain ⟨b, off, rfl, hcell⟩ := HC.out n hlt
    have hd : decide (n < ks.length) = true := by simpa using hlt
    have hr : Hid (knB ks (n : Int) = ks.getD n false) := by unfold Hid knB; simp
    generalize ks.getD n false = r at hcell hr
    go_enter Try.func15, Try.ntmps15
    go_wp2
    go_ret
    exact ⟨by rw [hr.out]; rfl, rfl⟩
  · have hd : decide (n < ks.length) = false := by simpa using hlt
    have hr : Hid (knB ks (n : Int) = false) := by unfold Hid knB; simp [List.getD_eq_getElem?_getD, List.getElem?_eq_none (Nat.le_of_not_lt hlt)]
    go_enter Try.func15, Try.ntmps15
    go_wp2
    go_ret
    exact ⟨by rw [hr.out]; rfl, rfl⟩
end Go.Proofs.Ytbdjdkfjbbhoeaa
