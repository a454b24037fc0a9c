/- The walk of CostSizes: it returns true. No condition (two theorems: up to 100 known variables, and more). -/
import Derived.Test.YtbdjdkfjbbhoeaaW6
import Derived.Test.YtbdjdkfjbbhoeaaW4
import Derived.Deep.RegionHeld3
namespace Go.Proofs.Ytbdjdkfjbbhoeaa
open Go.RowKit

theorem numL_mem (ks : List Bool) (v : Int) (h : 0 ≤ v) : memB (numL ks ks.length) (numL ks ks.length).length v = knB ks v := by
  obtain ⟨n, rfl⟩ := Int.eq_ofNat_of_zero_le h
  unfold memB knB numL
  rw [Bool.eq_iff_iff, List.contains_iff_mem, List.take_length, List.mem_map]
  simp only [Int.toNat_natCast]
  constructor
  · rintro ⟨i, hi, he⟩
    rw [List.mem_filter] at hi
    have : i = n := Int.ofNat.inj he
    subst this
    exact hi.2
  · intro hk
    refine ⟨n, List.mem_filter.2 ⟨List.mem_range.2 ?_, hk⟩, rfl⟩
    rcases Nat.lt_or_ge n ks.length with h | h
    · exact h
    · rw [List.getD_eq_getElem?_getD, List.getElem?_eq_none h] at hk; cases hk

theorem stp_eq (vs : List Int) (ds : List Nat) (ks : List Bool) (o : Option Nat) : ∀ k, stpR vs ds (numL ks ks.length) k o = stp vs ds ks k o
  | 0 => rfl
  | k + 1 => by
    rw [stpR, stp, stp_eq vs ds ks o k]
    unfold tst
    by_cases h : 0 ≤ vs.getD k 0
    · rw [numL_mem ks _ h]
    · rw [decide_eq_false h]; rfl

theorem fin_num (o : Option Nat) (h : ∀ b, o = some b → (FloatKind.f64.format.read b).isNaN = false) : (FloatKind.f64.format.order (fin o) (fin o) == some .eq) = true := by
  cases o with
  | none => decide +kernel
  | some b => rw [dbl]; show (Ieee.double.order b b == some Ordering.eq) = true; rw [order_num b (by rw [← dbl]; exact h b rfl)]; rfl

theorem stp_num (vs : List Int) (ds : List Nat) (ks : List Bool) (c : Nat) : ∀ k b, stp vs ds ks k (iniO c) = some b → (FloatKind.f64.format.read b).isNaN = false
  | 0, b, h => by
    have := rep_ini c
    rw [show iniO c = some b from h] at this
    exact this.2
  | k + 1, b, h => by
    rw [stp] at h
    split at h
    · unfold dv at h
      cases hs : stp vs ds ks k (iniO c) with
      | none => rw [hs] at h; cases h
      | some x => rw [hs] at h; exact div_notNaN _ _ _ h
    · exact stp_num vs ds ks c k b h

theorem szB_num (x0 : Nat) (vs : List Int) (ds : List Nat) (ks : List Bool) : (FloatKind.f64.format.order (szB x0 vs ds ks) (szB x0 vs ds ks) == some .eq) = true :=
  fin_num _ fun b h => stp_num vs ds ks x0 3 b h

theorem refSize_same (v0 v1 v2 : Int) (x0 d0 d1 d2 : Nat) (cap : Nat) (a : Option Addr) (ks : List Bool) (w : World) (hm : ks.length ≤ 100)
    (hc : IntsAt w a (numL ks ks.length)) (hca : ∀ b, a = some b → b.block < w.heap.size) :
    Calls Try.prog 9 #[.agg #[.float .f64 x0, .int .i64 v0, .int .i64 v1, .int .i64 v2, .float .f64 d0, .float .f64 d1, .float .f64 d2], .slice a (numL ks ks.length).length cap] w
      fun e w' => e = .returned (.float .f64 (szB x0 [v0, v1, v2] [d0, d1, d2] ks)) ∧ Below w.heap.size w w' := by
  have h := refSize_calls v0 v1 v2 x0 d0 d1 d2 cap a (numL ks ks.length) w (Nat.le_trans (numL_le _ _) hm) hc hca
  rw [stp_eq] at h
  exact h

/-- what 'numbers' hands back, as a slice of numbers in memory -/
theorem owns_ints {w : World} {base n : Nat} {v : Value} {zs : List Int} (h : w.ownsRow base 3 1 v n (zs.map (Value.int .i64))) (hn : n = zs.length) :
    ∃ a cap, v = .slice a zs.length cap ∧ IntsAt w a zs ∧ ∀ b, a = some b → b.block < w.heap.size := by
  subst hn
  obtain ⟨hl, ⟨rfl, h0⟩ | ⟨g, cap, cur, rfl, hg, hb, h1, h2, h3, h4⟩⟩ := h
  · exact ⟨none, 0, by rw [h0], fun j hj => by omega, fun b e => by cases e⟩
  · have hgs : g < w.heap.size := by
      rcases Nat.lt_or_ge g w.heap.size with h | h
      · exact h
      · rw [Array.getElem?_eq_none h] at hb; cases hb
    refine ⟨some ⟨g, 0, none⟩, cap, rfl, fun j hj => ⟨g, 0, rfl, ?_⟩, fun b e => by cases e; exact hgs⟩
    show (match w.heap[g]? with | some (.cells c _ _) => _ | _ => none) = _
    rw [hb]
    have hj2 : j < cur.size := by omega
    have e : (zs.map (Value.int .i64))[j]? = some (.int .i64 (zs.getD j 0)) := by
      rw [List.getElem?_map, List.getElem?_eq_getElem hj, List.getD_eq_getElem?_getD, List.getElem?_eq_getElem hj]; rfl
    rw [← h4, List.getElem?_take, if_pos (by omega)] at e
    simpa using e

theorem Size_calls' (v0 v1 v2 : Int) (x0 d0 d1 d2 : Nat) (cap : Nat) (a : Option Addr) (ks : List Bool) (s : Nat) (hs : szB x0 [v0, v1, v2] [d0, d1, d2] ks = s) (w : World) (hm : ks.length ≤ 100)
    (hc : BoolsAt w a ks) (hca : ∀ b, a = some b → 0 < ks.length → b.block < w.heap.size) :
    Calls Try.prog 8 #[.agg #[.float .f64 x0, .int .i64 v0, .int .i64 v1, .int .i64 v2, .float .f64 d0, .float .f64 d1, .float .f64 d2], .slice a ks.length cap] w
      fun e w' => e = .returned (.float .f64 s) ∧ Below w.heap.size w w' := by
  have h := Size_calls v0 v1 v2 x0 d0 d1 d2 cap a ks w hm hc hca
  rw [hs] at h; exact h

theorem refSize_same' (v0 v1 v2 : Int) (x0 d0 d1 d2 : Nat) (cap n : Nat) (a : Option Addr) (ks : List Bool) (s : Nat) (hs : szB x0 [v0, v1, v2] [d0, d1, d2] ks = s) (hn : (numL ks ks.length).length = n) (w : World) (hm : ks.length ≤ 100)
    (hc : IntsAt w a (numL ks ks.length)) (hca : ∀ b, a = some b → b.block < w.heap.size) :
    Calls Try.prog 9 #[.agg #[.float .f64 x0, .int .i64 v0, .int .i64 v1, .int .i64 v2, .float .f64 d0, .float .f64 d1, .float .f64 d2], .slice a n cap] w
      fun e w' => e = .returned (.float .f64 s) ∧ Below w.heap.size w w' := by
  have h := refSize_same v0 v1 v2 x0 d0 d1 d2 cap a ks w hm hc hca
  rw [hs, hn] at h; exact h

theorem numbers_calls' (cap : Nat) (a : Option Addr) (ks : List Bool) (w : World) (hm : ks.length ≤ 100)
    (hc : BoolsAt w a ks) (hca : ∀ b, a = some b → 0 < ks.length → b.block < w.heap.size) :
    Calls Try.prog 10 #[.slice a ks.length cap] w
      fun e w' => ∃ b n c, e = .returned (.slice b n c) ∧ (numL ks ks.length).length = n ∧ IntsAt w' b (numL ks ks.length) ∧ (∀ x, b = some x → x.block < w'.heap.size) ∧ Below w.heap.size w w' := by
  refine (numbers_calls cap a ks w hm hc hca).mono ?_
  rintro e w' ⟨v, rfl, hown, hb⟩
  obtain ⟨b, c, rfl, hi, hl⟩ := owns_ints hown rfl
  exact ⟨b, _, c, rfl, rfl, hi, hl, hb⟩

theorem box7_below {N B : Nat} {a b : World} {x0 x1 x2 x3 x4 x5 x6 : Option Value} (hb : Below N a b) (hB : B < N) (h : a.cell? ⟨B, 0, none⟩ = x0 ∧ a.cell? ⟨B, 1, none⟩ = x1 ∧ a.cell? ⟨B, 2, none⟩ = x2 ∧ a.cell? ⟨B, 3, none⟩ = x3 ∧ a.cell? ⟨B, 4, none⟩ = x4 ∧ a.cell? ⟨B, 5, none⟩ = x5 ∧ a.cell? ⟨B, 6, none⟩ = x6) :
    b.cell? ⟨B, 0, none⟩ = x0 ∧ b.cell? ⟨B, 1, none⟩ = x1 ∧ b.cell? ⟨B, 2, none⟩ = x2 ∧ b.cell? ⟨B, 3, none⟩ = x3 ∧ b.cell? ⟨B, 4, none⟩ = x4 ∧ b.cell? ⟨B, 5, none⟩ = x5 ∧ b.cell? ⟨B, 6, none⟩ = x6 := by
  obtain ⟨h0, h1, h2, h3, h4, h5, h6⟩ := h
  exact ⟨(hb.cell hB).trans h0, (hb.cell hB).trans h1, (hb.cell hB).trans h2, (hb.cell hB).trans h3, (hb.cell hB).trans h4, (hb.cell hB).trans h5, (hb.cell hB).trans h6⟩

set_option maxHeartbeats 2000000 in
theorem CostSizes_calls (v0 v1 v2 : Int) (x0 d0 d1 d2 : Nat) (cap : Nat) (a : Option Addr) (ks : List Bool) (w : World) (hm : ks.length ≤ 100)
    (hc : BoolsAt w a ks) (hca : ∀ b, a = some b → 0 < ks.length → b.block < w.heap.size) :
    Calls Try.prog 3 #[.agg #[.float .f64 x0, .int .i64 v0, .int .i64 v1, .int .i64 v2, .float .f64 d0, .float .f64 d1, .float .f64 d2], .slice a ks.length cap] w
      fun e w' => e = .returned (.bool true) ∧ Below w.heap.size w w' := by
  have hnum := szB_num x0 [v0, v1, v2] [d0, d1, d2] ks
  generalize hs : szB x0 [v0, v1, v2] [d0, d1, d2] ks = s at hnum
  have HS := Lib.hid hs
  clear hs
  have hlen : ¬ (100 < ks.length) := by omega
  have hlt : w.heap.size < (w.alloc (.cells #[.float .f64 x0, .int .i64 v0, .int .i64 v1, .int .i64 v2, .float .f64 d0, .float .f64 d1, .float .f64 d2] 26)).heap.size := by simp
  have hbw : Below w.heap.size w (w.alloc (.cells #[.float .f64 x0, .int .i64 v0, .int .i64 v1, .int .i64 v2, .float .f64 d0, .float .f64 d1, .float .f64 d2] 26)) := (Below.refl _ _).alloc (Nat.le_refl _) _
  have hc2 := hc.below hbw hca
  have hcell : ∀ i, (w.alloc (.cells #[.float .f64 x0, .int .i64 v0, .int .i64 v1, .int .i64 v2, .float .f64 d0, .float .f64 d1, .float .f64 d2] 26)).cell? ⟨w.heap.size, i, none⟩ = #[Value.float .f64 x0, .int .i64 v0, .int .i64 v1, .int .i64 v2, .float .f64 d0, .float .f64 d1, .float .f64 d2][i]? := fun i => by rw [World.cell?_alloc_new]
  have HC := Lib.hid hc2
  have HA := Lib.hid hca
  have HX := Lib.hid hcell
  have HW := Lib.hid hbw
  clear hc hca hc2 hcell hbw
  go_enter Try.func3, Try.ntmps3
  go_wp2_with fail
  generalize w.alloc (.cells #[.float .f64 x0, .int .i64 v0, .int .i64 v1, .int .i64 v2, .float .f64 d0, .float .f64 d1, .float .f64 d2] 26) = W at *
  have c0 : W.cell? ⟨w.heap.size, 0, none⟩ = some (.float .f64 x0) := HX.out 0
  have c1 : W.cell? ⟨w.heap.size, 1, none⟩ = some (.int .i64 v0) := HX.out 1
  have c2 : W.cell? ⟨w.heap.size, 2, none⟩ = some (.int .i64 v1) := HX.out 2
  have c3 : W.cell? ⟨w.heap.size, 3, none⟩ = some (.int .i64 v2) := HX.out 3
  have c4 : W.cell? ⟨w.heap.size, 4, none⟩ = some (.float .f64 d0) := HX.out 4
  have c5 : W.cell? ⟨w.heap.size, 5, none⟩ = some (.float .f64 d1) := HX.out 5
  have c6 : W.cell? ⟨w.heap.size, 6, none⟩ = some (.float .f64 d2) := HX.out 6
  go_region_held3 (fun w' => w'.cell? ⟨w.heap.size, 0, none⟩ = some (.float .f64 x0) ∧ w'.cell? ⟨w.heap.size, 1, none⟩ = some (.int .i64 v0) ∧ w'.cell? ⟨w.heap.size, 2, none⟩ = some (.int .i64 v1) ∧ w'.cell? ⟨w.heap.size, 3, none⟩ = some (.int .i64 v2) ∧
      w'.cell? ⟨w.heap.size, 4, none⟩ = some (.float .f64 d0) ∧ w'.cell? ⟨w.heap.size, 5, none⟩ = some (.float .f64 d1) ∧ w'.cell? ⟨w.heap.size, 6, none⟩ = some (.float .f64 d2))
    (first | go_keep | (go_split_ands; first | exact box7_below hb5 (Nat.lt_of_lt_of_le hlt (Nat.le_trans hz1 (Nat.le_trans hz2 hz3))) ⟨by assumption, by assumption, by assumption, by assumption, by assumption, by assumption, by assumption⟩ | exact box7_below hb3 (Nat.lt_of_lt_of_le hlt (Nat.le_trans hz1 hz2)) ⟨by assumption, by assumption, by assumption, by assumption, by assumption, by assumption, by assumption⟩ | exact box7_below hb2 (Nat.lt_of_lt_of_le hlt hz1) ⟨by assumption, by assumption, by assumption, by assumption, by assumption, by assumption, by assumption⟩ | exact box7_below hb1 hlt ⟨by assumption, by assumption, by assumption, by assumption, by assumption, by assumption, by assumption⟩))
    (first | (go_at_call 8; refine (Size_calls' v0 v1 v2 x0 d0 d1 d2 cap a ks s HS.out _ hm (by exact HC.out) (by exact fun b e h0 => Nat.lt_trans (HA.out b e h0) hlt)).mono ?_; rintro e w1 ⟨rfl, hb1⟩; have hz1 : W.heap.size ≤ w1.heap.size := hb1.size) | (go_at_call 10; refine (numbers_calls' cap a ks _ hm (by exact BoolsAt.below (by exact HC.out) hb1 (by exact fun b e h0 => Nat.lt_trans (HA.out b e h0) hlt)) (by exact fun b e h0 => Nat.lt_of_lt_of_le (Nat.lt_trans (HA.out b e h0) hlt) hz1)).mono ?_; rintro e w2 ⟨a2, n2, c2, rfl, hn2, hi2, hl2, hb2⟩; have hz2 : w1.heap.size ≤ w2.heap.size := hb2.size; have HN2 := Lib.hid hn2; have HI2 := Lib.hid hi2; have HL2 := Lib.hid hl2; clear hn2 hi2 hl2) | (go_at_call 9; refine (refSize_same' v0 v1 v2 x0 d0 d1 d2 c2 n2 a2 ks s HS.out HN2.out _ hm (by exact HI2.out) (by exact HL2.out)).mono ?_; rintro e w3 ⟨rfl, hb3⟩; have hz3 : w2.heap.size ≤ w3.heap.size := hb3.size) | (go_at_call 7; refine (bits_any s _ hnum).mono ?_; rintro e w4 ⟨rfl, rfl⟩) | (go_at_call 6; refine (known_calls _).mono ?_; rintro e w5 ⟨rfl, hb5⟩; have hz5 : w3.heap.size ≤ w5.heap.size := hb5.size))
  have hend : Below w.heap.size w w5 :=
    HW.out.drew.trans ((hb1.mono (Nat.le_of_lt hlt)).trans ((hb2.mono (Nat.le_trans (Nat.le_of_lt hlt) hz1)).trans ((hb3.mono (Nat.le_trans (Nat.le_of_lt hlt) (Nat.le_trans hz1 hz2))).trans (hb5.mono (Nat.le_trans (Nat.le_of_lt hlt) (Nat.le_trans hz1 (Nat.le_trans hz2 hz3)))))))
  have HE := Lib.hid hend
  go_wp2
  go_ret
  exact ⟨rfl, HE.out⟩

set_option maxHeartbeats 2000000 in
theorem CostSizes_long (l : Value) (c0 c1 c2 c3 c4 c5 c6 : Value) (hl : l = .agg #[c0, c1, c2, c3, c4, c5, c6]) (cap n : Nat) (a : Option Addr) (w : World) (hm : 100 < n) :
    Calls Try.prog 3 #[l, .slice a n cap] w fun e w' => e = .returned (.bool true) ∧ Below w.heap.size w w' := by
  subst hl
  go_enter Try.func3, Try.ntmps3
  go_wp2_with fail
  refine (known_calls _).mono ?_
  rintro e w1 ⟨rfl, hb⟩
  have hend : Below w.heap.size w w1 := ((Below.refl _ _).alloc (Nat.le_refl _) _).trans (hb.mono (by simp))
  have HE := Lib.hid hend
  clear hb hend
  go_wp2
  go_ret
  exact ⟨rfl, HE.out⟩
end Go.Proofs.Ytbdjdkfjbbhoeaa
