/- The walk of the reference's Size. Condition: at most 100 known numbers. -/
import Derived.Test.YtbdjdkfjbbhoeaaW5
namespace Go.Proofs.Ytbdjdkfjbbhoeaa
open Go.RowKit

/-- a slice of numbers in memory -/
def IntsAt (w : World) (a : Option Addr) (zs : List Int) : Prop :=
  ∀ j, j < zs.length → ∃ b off, a = some ⟨b, off, none⟩ ∧ w.cell? ⟨b, off + j, none⟩ = some (.int .i64 (zs.getD j 0))

theorem IntsAt.below {w w' : World} {a : Option Addr} {zs : List Int} {B : Nat} (h : IntsAt w a zs) (hb : Below B w w') (ha : ∀ b, a = some b → b.block < B) : IntsAt w' a zs := by
  intro j hj
  obtain ⟨b, off, e, hc⟩ := h j hj
  exact ⟨b, off, e, (hb.cell (p := ⟨b, off + j, none⟩) (show b < B from ha ⟨b, off, none⟩ e)).trans hc⟩

theorem memB_step_yes {zs : List Int} {k : Nat} {v : Int} (h : memB zs k v = true) : memB zs (k + 1) v = true := by
  unfold memB at *
  rw [List.contains_iff_mem] at *
  rw [List.take_add_one]
  exact List.mem_append_left _ h
theorem memB_step_no {zs : List Int} {k : Nat} {v z : Int} (hk : k < zs.length) (hz : zs.getD k 0 = z) (h : memB zs k v = false) : memB zs (k + 1) v = (z == v) := by
  have e : zs.take (k + 1) = zs.take k ++ [z] := by
    rw [List.take_add_one, List.getElem?_eq_getElem hk, ← hz, List.getD_eq_getElem?_getD, List.getElem?_eq_getElem hk]; rfl
  unfold memB at *
  rw [e, Bool.eq_iff_iff, List.contains_iff_mem, List.mem_append, beq_iff_eq]
  have hn : v ∉ zs.take k := fun hc => by rw [← List.contains_iff_mem, h] at hc; cases hc
  constructor
  · rintro (h | h)
    · exact absurd h hn
    · simp at h; exact h.symm
  · rintro rfl; exact .inr (by simp)
theorem memB_zero (zs : List Int) (v : Int) : memB zs 0 v = false := by unfold memB; simp

def stpR (vs : List Int) (ds : List Nat) (zs : List Int) : Nat → Option Nat → Option Nat
  | 0, o => o
  | k + 1, o => if (decide (0 ≤ vs.getD k 0) && (memB zs zs.length (vs.getD k 0) || memB vs k (vs.getD k 0))) = true then dv (stpR vs ds zs k o) (ds.getD k 0) else stpR vs ds zs k o

structure RefW (w : World) (B : Nat) (c : Array Value) (a : Option Addr) (zs : List Int) (wr : World) : Prop where
  box : ∀ i, i < 7 → wr.cell? ⟨B, i, none⟩ = c[i]?
  ints : IntsAt wr a zs
  below : Below w.heap.size w wr

theorem RefW.drew {w wr : World} {B : Nat} {c : Array Value} {a : Option Addr} {zs : List Int} (h : RefW w B c a zs wr) : RefW w B c a zs wr.drew :=
  ⟨h.box, h.ints, h.below.drew⟩

theorem stpR_yes {vs : List Int} {ds : List Nat} {zs : List Int} {k : Nat} {o : Option Nat} {d : Nat} {v : Int} (hv : vs.getD k 0 = v) (hd : ds.getD k 0 = d) (h0 : 0 ≤ v) (h : (memB zs zs.length v || memB vs k v) = true) : stpR vs ds zs (k + 1) o = dv (stpR vs ds zs k o) d := by
  rw [stpR, hv, if_pos (by rw [h]; simpa using h0), hd]
theorem stpR_no {vs : List Int} {ds : List Nat} {zs : List Int} {k : Nat} {o : Option Nat} {v : Int} (hv : vs.getD k 0 = v) (h : ¬ 0 ≤ v ∨ (memB zs zs.length v || memB vs k v) = false) : stpR vs ds zs (k + 1) o = stpR vs ds zs k o := by
  rw [stpR, hv, if_neg]
  rcases h with h | h
  · simp [h]
  · rw [h]; simp

set_option maxHeartbeats 2000000 in
theorem refSize_calls (v0 v1 v2 : Int) (x0 d0 d1 d2 : Nat) (cap : Nat) (a : Option Addr) (zs : List Int) (w : World) (hm : zs.length ≤ 100)
    (hc : IntsAt w a zs) (hca : ∀ b, a = some b → b.block < w.heap.size) :
    Calls Try.prog 9 #[.agg #[.float .f64 x0, .int .i64 v0, .int .i64 v1, .int .i64 v2, .float .f64 d0, .float .f64 d1, .float .f64 d2], .slice a zs.length cap] w
      fun e w' => e = .returned (.float .f64 (fin (stpR [v0, v1, v2] [d0, d1, d2] zs 3 (iniO x0)))) ∧ Below w.heap.size w w' := by
  have HC := Lib.hid hc
  have HA := Lib.hid hca
  clear hc hca
  go_enter Try.func9, Try.ntmps9
  go_wp2
  go_loopw [5, 6] (fun x i wr => ∃ k : Nat, k ≤ 3 ∧ i = .int .i64 k ∧ (∃ xb : Nat, x = .float .f64 xb ∧ rep (stpR [v0, v1, v2] [d0, d1, d2] zs k (iniO x0)) xb) ∧
      RefW w w.heap.size #[.float .f64 x0, .int .i64 v0, .int .i64 v1, .int .i64 v2, .float .f64 d0, .float .f64 d1, .float .f64 d2] a zs wr) (fun _ i _ => 3 - (intOf i).toNat)
  case atStart =>
    refine ⟨0, by omega, rfl, ⟨x0, rfl, rep_ini x0⟩, ?_⟩
    exact ⟨fun i hi => by rw [World.cell?_alloc_new], HC.out.below ((Below.refl _ _).alloc (Nat.le_refl _) _) HA.out, (Below.refl _ _).alloc (Nat.le_refl _) _⟩
  case round =>
    obtain ⟨k, hk3, rfl, ⟨xb, rfl, hrep⟩, hw⟩ := hrel
    have HW := Lib.hid hw
    have HR := Lib.hid hrep
    clear hw hrep
    by_cases hlt : k < 3
    · have hcv : Hid (∀ j, j < 3 → wr.cell? ⟨w.heap.size, 1 + j, none⟩ = some (.int .i64 ([v0, v1, v2].getD j 0))) := by
        intro j hj
        rw [HW.out.box (1 + j) (by omega)]
        rcases (by omega : j = 0 ∨ j = 1 ∨ j = 2) with rfl | rfl | rfl <;> rfl
      have hd : wr.cell? ⟨w.heap.size, 1 + 3 + k, none⟩ = some (.float .f64 ([d0, d1, d2].getD k 0)) := by
        rw [HW.out.box (1 + 3 + k) (by omega)]
        rcases (by omega : k = 0 ∨ k = 1 ∨ k = 2) with rfl | rfl | rfl <;> rfl
      have hvc := hcv.out k hlt
      generalize hv : [v0, v1, v2].getD k 0 = v at hvc
      generalize hdv : [d0, d1, d2].getD k 0 = d at hd
      have HV := Lib.hid hv
      have HD := Lib.hid hdv
      clear hv hdv
      have hms := memB_zero zs v
      go_wp2
      go_loop [8, 9] (fun s i => ∃ q : Nat, q ≤ zs.length ∧ i = .int .i64 q ∧ s = .bool (memB zs q v)) (fun _ i => zs.length - (intOf i).toNat)
      case atStart => exact ⟨0, Nat.zero_le _, rfl, by rw [memB_zero]⟩
      case round =>
        obtain ⟨q, hq, rfl, rfl⟩ := hrel
        clear hms
        by_cases hql : q < zs.length
        · obtain ⟨b, off, rfl, hcell⟩ := HW.out.ints q hql
          generalize hz : zs.getD q 0 = z at hcell
          cases hmq : memB zs q v
          · have hst := memB_step_no hql hz hmq
            have HS := Lib.hid hst
            have HZ := Lib.hid hz
            clear hst hz hmq
            go_wp2
            go_round
            case rel => exact ⟨q + 1, by omega, by go_num, by rw [HS.out]⟩
            case measure => simp [intOf]; omega
          · have hst := memB_step_yes hmq
            have HS := Lib.hid hst
            have HZ := Lib.hid hz
            clear hst hz hmq
            go_wp2
            go_round
            case rel => exact ⟨q + 1, by omega, by go_num, by rw [HS.out]⟩
            case measure => simp [intOf]; omega
        · have hqe : q = zs.length := by omega
          subst hqe
          generalize hmz : memB zs zs.length v = mz
          have HMZ := Lib.hid hmz
          clear hmz
          go_wp2
          go_loop [8, 10] (fun s i => ∃ q : Nat, q ≤ k ∧ i = .int .i64 q ∧ s = .bool (mz || memB [v0, v1, v2] q v)) (fun _ i => k - (intOf i).toNat)
          case atStart => exact ⟨0, Nat.zero_le _, rfl, by rw [memB_zero, Bool.or_false]⟩
          case round =>
            obtain ⟨q, hq, rfl, rfl⟩ := hrel
            by_cases hql : q < k
            · have hcell := hcv.out q (by omega)
              generalize hz : [v0, v1, v2].getD q 0 = z at hcell
              cases hmz : mz
              · cases hmq : memB [v0, v1, v2] q v
                · have hst := memB_step_no (zs := [v0, v1, v2]) (show q < 3 by omega) hz hmq
                  have HS := Lib.hid hst
                  have HZ := Lib.hid hz
                  clear hst hz hmq
                  subst hmz
                  go_wp2
                  go_round
                  case rel => exact ⟨q + 1, by omega, by go_num, by rw [HS.out]; rfl⟩
                  case measure => simp [intOf]; omega
                · have hst := memB_step_yes hmq
                  have HS := Lib.hid hst
                  have HZ := Lib.hid hz
                  clear hst hz hmq
                  subst hmz
                  go_wp2
                  go_round
                  case rel => exact ⟨q + 1, by omega, by go_num, by rw [HS.out]; rfl⟩
                  case measure => simp [intOf]; omega
              · have HZ := Lib.hid hz
                clear hz
                subst hmz
                go_wp2
                go_round
                case rel => exact ⟨q + 1, by omega, by go_num, rfl⟩
                case measure => simp [intOf]; omega
            · have hqe : q = k := by omega
              subst hqe
              by_cases h0 : 0 ≤ v
              · have h0' : decide (0 ≤ v) = true := by simpa using h0
                cases hor : (mz || memB [v0, v1, v2] q v)
                · have HO := Lib.hid hor
                  clear hor
                  go_wp2
                  go_roundw
                  case rel => exact ⟨q + 1, by omega, by go_num, ⟨xb, rfl, by rw [stpR_no HV.out (.inr (by rw [HMZ.out]; exact HO.out))]; exact HR.out⟩, HW.out⟩
                  case measure => simp [intOf]; omega
                · have HO := Lib.hid hor
                  clear hor
                  cases hq : FloatKind.f64.format.div xb d with
                  | none =>
                    have HQ := Lib.hid hq
                    have HQ2 := run_quo_none 22 xb d hq
                    clear hq
                    go_wp2
                    go_roundw
                    case rel => exact ⟨q + 1, by omega, by go_num, ⟨_, rfl, by rw [stpR_yes HV.out HD.out h0 (by rw [HMZ.out]; exact HO.out)]; exact rep_none _ HR.out HQ.out⟩, HW.out.drew⟩
                    case measure => simp [intOf]; omega
                  | some qq =>
                    have HQ := Lib.hid hq
                    have HQ2 := fun ww : World => run_float_arith (P := Try.prog) ww .quo 22 .f64 xb d qq hq
                    clear hq
                    go_wp2
                    go_roundw
                    case rel => exact ⟨q + 1, by omega, by go_num, ⟨_, rfl, by rw [stpR_yes HV.out HD.out h0 (by rw [HMZ.out]; exact HO.out)]; exact rep_some HR.out HQ.out⟩, HW.out⟩
                    case measure => simp [intOf]; omega
              · have h0' : decide (0 ≤ v) = false := by simpa using h0
                go_wp2
                go_roundw
                case rel => exact ⟨q + 1, by omega, by go_num, ⟨xb, rfl, by rw [stpR_no HV.out (.inl h0)]; exact HR.out⟩, HW.out⟩
                case measure => simp [intOf]; omega
    · have hk4 : k = 3 := by omega
      subst hk4
      go_wp2_with fail
      refine (Plain_any _ _).mono ?_
      rintro e w' ⟨rfl, rfl⟩
      go_wp2
      go_ret
      exact ⟨by rw [← pl_rep HR.out]; rfl, HW.out.below⟩
end Go.Proofs.Ytbdjdkfjbbhoeaa
