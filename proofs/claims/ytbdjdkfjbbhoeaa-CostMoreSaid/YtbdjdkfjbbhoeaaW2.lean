/- The walks of cost.size and cost.Size: the size as a plain function of the look-up. Condition: at most 100 known variables. -/
import Derived.Test.YtbdjdkfjbbhoeaaW1
import Derived.Test.YtbdjdkfjbbhoeaaFloatNan
namespace Go.Proofs.Ytbdjdkfjbbhoeaa
open Go.RowKit

/-- none stands for no number, of whatever bits -/
def dv (o : Option Nat) (d : Nat) : Option Nat := o.bind fun b => FloatKind.f64.format.div b d
def rep (o : Option Nat) (x : Nat) : Prop := match o with
  | some b => x = b ∧ (FloatKind.f64.format.read b).isNaN = false
  | none => (FloatKind.f64.format.read x).isNaN = true
def fin (o : Option Nat) : Nat := o.getD 0
def iniO (c : Nat) : Option Nat := if (FloatKind.f64.format.read c).isNaN then none else some c

def tst (vs : List Int) (ks : List Bool) (k : Nat) : Bool := decide (0 ≤ vs.getD k 0) && (knB ks (vs.getD k 0) || memB vs k (vs.getD k 0))
def stp (vs : List Int) (ds : List Nat) (ks : List Bool) : Nat → Option Nat → Option Nat
  | 0, o => o
  | k + 1, o => if tst vs ks k = true then dv (stp vs ds ks k o) (ds.getD k 0) else stp vs ds ks k o

theorem rep_ini (c : Nat) : rep (iniO c) c := by
  unfold rep iniO
  split
  · rename_i b h; split at h
    · cases h
    · rename_i hn; cases h; exact ⟨rfl, by simpa using hn⟩
  · rename_i h; split at h
    · assumption
    · cases h

structure SizeW (w : World) (B : Nat) (c : Array Value) (kb cap : Nat) (a : Option Addr) (ks : List Bool) (wr : World) : Prop where
  box : ∀ i, i < 7 → wr.cell? ⟨B, i, none⟩ = c[i]?
  kn : wr.cell? ⟨kb, 0, none⟩ = some (.slice a ks.length cap)
  bools : BoolsAt wr a ks
  below : Below w.heap.size w wr

theorem SizeW.drewN {w wr : World} {B kb cap : Nat} {c : Array Value} {a : Option Addr} {ks : List Bool} (h : SizeW w B c kb cap a ks wr) (n : Nat) : SizeW w B c kb cap a ks (wr.drewN n) :=
  ⟨h.box, h.kn, h.bools, ⟨h.below.os, h.below.tape, h.below.output, h.below.size, h.below.block⟩⟩
theorem SizeW.drew {w wr : World} {B kb cap : Nat} {c : Array Value} {a : Option Addr} {ks : List Bool} (h : SizeW w B c kb cap a ks wr) : SizeW w B c kb cap a ks wr.drew := h.drewN 1

/-- a division that has an answer, and one that has none -/
theorem run_quo_none (t : TypeId) (x d : Nat) (h : FloatKind.f64.format.div x d = none) (w : World) :
    (binOp .quo t (.float .f64 x) (.float .f64 d)).run Try.prog w = .ok (.float .f64 (Question.cut (.nanBits .f64 x d) (w.tape w.drawn (.nanBits .f64 x d)))) w.drew := by
  simp [binOp, Op.floatArith, h, choose, Sem.run, Question.forced]


theorem rep_some {o : Option Nat} {x d q : Nat} (h : rep o x) (hq : FloatKind.f64.format.div x d = some q) : rep (dv o d) q := by
  cases o with
  | none => rw [dbl, div_nan x d h] at hq; cases hq
  | some b =>
    obtain ⟨rfl, hn⟩ := h
    unfold dv
    rw [Option.bind_some, hq]
    exact ⟨rfl, div_notNaN _ _ _ hq⟩

theorem rep_none {o : Option Nat} {x d : Nat} (t : Nat) (h : rep o x) (hq : FloatKind.f64.format.div x d = none) : rep (dv o d) (Question.cut (.nanBits .f64 x d) t) := by
  have : dv o d = none := by
    cases o with
    | none => rfl
    | some b => obtain ⟨rfl, hn⟩ := h; unfold dv; rw [Option.bind_some, hq]
  rw [this]
  exact nan_cut x d t

theorem tst_no {vs : List Int} {ks : List Bool} {k : Nat} {v : Int} (hv : vs.getD k 0 = v) (h : ¬ 0 ≤ v) : tst vs ks k = false := by
  unfold tst; rw [hv]; simp; omega
theorem tst_kn {vs : List Int} {ks : List Bool} {k : Nat} {v : Int} (hv : vs.getD k 0 = v) (h : 0 ≤ v) (hk : knB ks v = true) : tst vs ks k = true := by
  unfold tst; rw [hv, hk]; simpa using h
theorem tst_mb {vs : List Int} {ks : List Bool} {k : Nat} {v : Int} (hv : vs.getD k 0 = v) (h : 0 ≤ v) (hk : knB ks v = false) {r : Bool} (hm : memB vs k v = r) : tst vs ks k = r := by
  unfold tst; rw [hv, hk, hm]; simp [h]

theorem stp_yes {vs : List Int} {ds : List Nat} {ks : List Bool} {k : Nat} {o : Option Nat} {d : Nat} (hd : ds.getD k 0 = d) (h : tst vs ks k = true) : stp vs ds ks (k + 1) o = dv (stp vs ds ks k o) d := by
  rw [stp, if_pos h, hd]
theorem stp_no {vs : List Int} {ds : List Nat} {ks : List Bool} {k : Nat} {o : Option Nat} (h : tst vs ks k = false) : stp vs ds ks (k + 1) o = stp vs ds ks k o := by
  rw [stp, if_neg (by simp [h])]

theorem pl_rep {o : Option Nat} {x : Nat} (h : rep o x) : pl x = fin o := by
  unfold pl fin
  cases o with
  | none => rw [dbl, order_nan x h]; rfl
  | some b =>
    obtain ⟨rfl, hn⟩ := h
    have : Ieee.double.order x x = some Ordering.eq := by
      unfold Ieee.Format.order
      rw [Ieee.order_self, if_neg (by rw [← dbl, hn]; simp)]
    rw [dbl, this]; rfl

set_option maxHeartbeats 1000000 in
theorem size_calls (v0 v1 v2 : Int) (x0 d0 d1 d2 : Nat) (kb cap : Nat) (a : Option Addr) (ks : List Bool) (w : World) (hm : ks.length ≤ 100)
    (hkb : kb < w.heap.size)
    (hk : w.cell? ⟨kb, 0, none⟩ = some (.slice a ks.length cap)) (hc : BoolsAt w a ks) (hca : ∀ b, a = some b → 0 < ks.length → b.block < w.heap.size) :
    Calls Try.prog 14 #[.agg #[.float .f64 x0, .int .i64 v0, .int .i64 v1, .int .i64 v2, .float .f64 d0, .float .f64 d1, .float .f64 d2], .func (.func 15) #[] #[.pointer (some ⟨kb, 0, none⟩)]] w
      fun e w' => e = .returned (.float .f64 (fin (stp [v0, v1, v2] [d0, d1, d2] ks 3 (iniO x0)))) ∧ Below w.heap.size w w' := by
  have HC := Lib.hid hc
  have HA := Lib.hid hca
  clear hc hca
  go_enter Try.func14, Try.ntmps14
  go_wp2
  go_loopw [5, 12] (fun x i wr => ∃ k : Nat, k ≤ 3 ∧ i = .int .i64 k ∧ (∃ xb : Nat, x = .float .f64 xb ∧ rep (stp [v0, v1, v2] [d0, d1, d2] ks k (iniO x0)) xb) ∧
      SizeW w w.heap.size #[.float .f64 x0, .int .i64 v0, .int .i64 v1, .int .i64 v2, .float .f64 d0, .float .f64 d1, .float .f64 d2] kb cap a ks wr) (fun _ i _ => 3 - (intOf i).toNat)
  case atStart =>
    refine ⟨0, by omega, rfl, ⟨x0, rfl, rep_ini x0⟩, ?_⟩
    refine ⟨fun i hi => by rw [World.cell?_alloc_new], by rw [World.cell?_alloc_old _ _ _ (Nat.ne_of_lt hkb)]; exact hk, fun j hj => ?_, (Below.refl _ _).alloc (Nat.le_refl _) _⟩
    obtain ⟨b, off, e, hcell⟩ := HC.out j hj
    exact ⟨b, off, e, by rw [World.cell?_alloc_old _ _ ⟨b, off + j, none⟩ (show b ≠ _ from Nat.ne_of_lt (HA.out _ e (by omega)))]; exact hcell⟩
  case round =>
    obtain ⟨k, hk3, rfl, ⟨xb, rfl, hrep⟩, hw⟩ := hrel
    have HW := Lib.hid hw
    have HR := Lib.hid hrep
    clear hw hrep
    by_cases hlt : k < 3
    · have hix : ∀ ww : World, (Instr.index 23 (.agg #[.int .i64 v0, .int .i64 v1, .int .i64 v2]) (.int .i64 k)).run Try.prog ww = .ok (.int .i64 ([v0, v1, v2].getD k 0)) ww := by
        intro ww
        rcases (by omega : k = 0 ∨ k = 1 ∨ k = 2) with rfl | rfl | rfl <;> kernel_rfl
      have hsl : ∀ ww : World, (Instr.sliceAt 23 (.pointer (some ⟨w.heap.size, 1, none⟩)) none (some (.int .i64 k)) none).run Try.prog ww = .ok (.slice (some ⟨w.heap.size, 1, none⟩) k 3) ww := by
        intro ww
        rcases (by omega : k = 0 ∨ k = 1 ∨ k = 2) with rfl | rfl | rfl <;> kernel_rfl
      have hd : wr.cell? ⟨w.heap.size, 1 + 3 + k, none⟩ = some (.float .f64 ([d0, d1, d2].getD k 0)) := by
        rw [HW.out.box (1 + 3 + k) (by omega)]
        rcases (by omega : k = 0 ∨ k = 1 ∨ k = 2) with rfl | rfl | rfl <;> rfl
      have hcv : Hid (∀ j, j < k → wr.cell? ⟨w.heap.size, 1 + j, none⟩ = some (.int .i64 ([v0, v1, v2].getD j 0))) := by
        intro j hj
        rw [HW.out.box (1 + j) (by omega)]
        rcases (by omega : j = 0 ∨ j = 1 ∨ j = 2) with rfl | rfl | rfl <;> rfl
      generalize hv : [v0, v1, v2].getD k 0 = v at hix
      generalize hdv : [d0, d1, d2].getD k 0 = d at hd
      have HV := Lib.hid hv
      have HD := Lib.hid hdv
      clear hv hdv
      by_cases h0 : 0 ≤ v
      · have h0' : decide (0 ≤ v) = true := by simpa using h0
        cases hq : FloatKind.f64.format.div xb d with
        | none =>
          have HQ := Lib.hid hq
          have HQ2 := run_quo_none 22 xb d hq
          clear hq
          go_wp2_with fail
          refine (known_any v kb cap a ks _ h0 hm HW.out.kn HW.out.bools).mono ?_
          rintro e w' ⟨rfl, rfl⟩
          cases hkn : knB ks v
          · have HKN := Lib.hid hkn
            clear hkn
            go_wp2_with fail
            refine (contains_any w.heap.size 1 k 3 [v0, v1, v2] v _ (by simp; omega) (by simp) hcv.out).mono ?_
            rintro e w' ⟨rfl, rfl⟩
            cases hmb : memB [v0, v1, v2] k v
            · have HMB := Lib.hid hmb
              clear hmb
              go_wp2
              go_roundw
              case rel => exact ⟨k + 1, by omega, by go_num, ⟨xb, rfl, by rw [stp_no (tst_mb HV.out h0 HKN.out HMB.out)]; exact HR.out⟩, HW.out⟩
              case measure => simp [intOf]; omega
            · have HMB := Lib.hid hmb
              clear hmb
              go_wp2
              go_roundw
              case rel => exact ⟨k + 1, by omega, by go_num, ⟨_, rfl, by rw [stp_yes HD.out (tst_mb HV.out h0 HKN.out HMB.out)]; exact rep_none _ HR.out HQ.out⟩, HW.out.drew⟩
              case measure => simp [intOf]; omega
          · have HKN := Lib.hid hkn
            clear hkn
            go_wp2
            go_roundw
            case rel => exact ⟨k + 1, by omega, by go_num, ⟨_, rfl, by rw [stp_yes HD.out (tst_kn HV.out h0 HKN.out)]; exact rep_none _ HR.out HQ.out⟩, HW.out.drew⟩
            case measure => simp [intOf]; omega
        | some q =>
          have HQ := Lib.hid hq
          have HQ2 := fun ww : World => run_float_arith (P := Try.prog) ww .quo 22 .f64 xb d q hq
          clear hq
          go_wp2_with fail
          refine (known_any v kb cap a ks _ h0 hm HW.out.kn HW.out.bools).mono ?_
          rintro e w' ⟨rfl, rfl⟩
          cases hkn : knB ks v
          · have HKN := Lib.hid hkn
            clear hkn
            go_wp2_with fail
            refine (contains_any w.heap.size 1 k 3 [v0, v1, v2] v _ (by simp; omega) (by simp) hcv.out).mono ?_
            rintro e w' ⟨rfl, rfl⟩
            cases hmb : memB [v0, v1, v2] k v
            · have HMB := Lib.hid hmb
              clear hmb
              go_wp2
              go_roundw
              case rel => exact ⟨k + 1, by omega, by go_num, ⟨xb, rfl, by rw [stp_no (tst_mb HV.out h0 HKN.out HMB.out)]; exact HR.out⟩, HW.out⟩
              case measure => simp [intOf]; omega
            · have HMB := Lib.hid hmb
              clear hmb
              go_wp2
              go_roundw
              case rel => exact ⟨k + 1, by omega, by go_num, ⟨_, rfl, by rw [stp_yes HD.out (tst_mb HV.out h0 HKN.out HMB.out)]; exact rep_some HR.out HQ.out⟩, HW.out⟩
              case measure => simp [intOf]; omega
          · have HKN := Lib.hid hkn
            clear hkn
            go_wp2
            go_roundw
            case rel => exact ⟨k + 1, by omega, by go_num, ⟨_, rfl, by rw [stp_yes HD.out (tst_kn HV.out h0 HKN.out)]; exact rep_some HR.out HQ.out⟩, HW.out⟩
            case measure => simp [intOf]; omega
      · have h0' : decide (0 ≤ v) = false := by simpa using h0
        go_wp2
        go_roundw
        case rel => exact ⟨k + 1, by omega, by go_num, ⟨xb, rfl, by rw [stp_no (tst_no HV.out h0)]; exact HR.out⟩, HW.out⟩
        case measure => simp [intOf]; omega
    · have hk4 : k = 3 := by omega
      subst hk4
      go_wp2_with fail
      refine (plain_any _ _).mono ?_
      rintro e w' ⟨rfl, rfl⟩
      go_wp2
      go_ret
      exact ⟨by rw [← pl_rep HR.out]; rfl, HW.out.below⟩

/-- the size of a look-up by the chapter -/
def szB (x0 : Nat) (vs : List Int) (ds : List Nat) (ks : List Bool) : Nat := fin (stp vs ds ks 3 (iniO x0))

set_option maxHeartbeats 1000000 in
theorem Size_calls (v0 v1 v2 : Int) (x0 d0 d1 d2 : Nat) (cap : Nat) (a : Option Addr) (ks : List Bool) (w : World) (hm : ks.length ≤ 100)
    (hc : BoolsAt w a ks) (hca : ∀ b, a = some b → 0 < ks.length → b.block < w.heap.size) :
    Calls Try.prog 8 #[.agg #[.float .f64 x0, .int .i64 v0, .int .i64 v1, .int .i64 v2, .float .f64 d0, .float .f64 d1, .float .f64 d2], .slice a ks.length cap] w
      fun e w' => e = .returned (.float .f64 (szB x0 [v0, v1, v2] [d0, d1, d2] ks)) ∧ Below w.heap.size w w' := by
  have HC := Lib.hid hc
  have HA := Lib.hid hca
  clear hc hca
  go_enter Try.func8, Try.ntmps8
  go_wp2_with fail
  refine (size_calls v0 v1 v2 x0 d0 d1 d2 (w.heap.size + 1) cap a ks _ hm (by simp) (by go_simp) ?hb ?hx).mono ?_
  case hb =>
    intro j hj
    obtain ⟨b, off, e, hcell⟩ := HC.out j hj
    have hne : b < w.heap.size := HA.out _ e (by omega)
    exact ⟨b, off, e, by
      rw [World.cell?_alloc_old _ _ ⟨b, off + j, none⟩ (show b ≠ _ by simp; omega), World.cell?_alloc_old _ _ ⟨b, off + j, none⟩ (show b ≠ _ by omega)]; exact hcell⟩
  case hx =>
    intro b e h0
    have := HA.out b e h0
    simp; omega
  rintro e w' ⟨rfl, hb⟩
  have hb2 : Below w.heap.size w w' := (((Below.refl _ _).alloc (Nat.le_refl _) _).alloc (by simp) _).trans (hb.mono (by simp; omega))
  have HB := Lib.hid hb2
  clear hb hb2
  go_wp2
  go_ret
  exact ⟨rfl, HB.out⟩
end Go.Proofs.Ytbdjdkfjbbhoeaa
