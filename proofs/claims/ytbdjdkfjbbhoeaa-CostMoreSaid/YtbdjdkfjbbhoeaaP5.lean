/- CostMore returns true for every look-up and every two lists of what is known. No condition. -/
import Derived.Test.YtbdjdkfjbbhoeaaOpen
import Derived.Test.YtbdjdkfjbbhoeaaW9
namespace Go.Proofs.Ytbdjdkfjbbhoeaa.costMore
open Go.ChangeShapes Go.WideShapes Go.ChangeAt Go.RowKit
theorem own : ownKnob Try.prog.godebug = none := by kernel_rfl
theorem laidOut : laidOutB Try.prog = true := by kernel_rfl

theorem walk (v0 v1 v2 : Int) (x0 d0 d1 d2 : Nat) (na ca nb cb : Nat) (a b : Option Addr) (ka kb : List Bool) (hna : ka.length = na) (hnb : kb.length = nb) (w : World)
    (hca : BoolsAt w a ka) (hla : ∀ x, a = some x → 0 < ka.length → x.block < w.heap.size) (hza : a = none → ka = [] ∧ ca = 0)
    (hcb : BoolsAt w b kb) (hlb : ∀ x, b = some x → 0 < kb.length → x.block < w.heap.size) :
    Calls Try.prog 5 #[.agg #[.float .f64 x0, .int .i64 v0, .int .i64 v1, .int .i64 v2, .float .f64 d0, .float .f64 d1, .float .f64 d2], .slice a na ca, .slice b nb cb] w
      fun e w' => e = .returned (.bool true) ∧ Below w.heap.size w w' := by
  subst hna
  subst hnb
  by_cases h : ka.length ≤ 100
  · by_cases h' : kb.length ≤ 100
    · cases h0 : (FloatKind.f64.format.order x0 0 == some .gt || FloatKind.f64.format.order x0 0 == some .eq)
      · exact More_k3 x0 v0 v1 v2 d0 d1 d2 _ ca _ cb a b w h h' h0
      · cases h1 : (FloatKind.f64.format.order x0 4832362400168542208 == some .lt || FloatKind.f64.format.order x0 4832362400168542208 == some .eq)
        · exact More_k4 x0 v0 v1 v2 d0 d1 d2 _ ca _ cb a b w h h' h0 h1
        · exact More_k5 x0 v0 v1 v2 d0 d1 d2 ca cb a b ka kb w h h' h0 h1 hca hcb hla hlb hza
    · exact More_k2 x0 v0 v1 v2 d0 d1 d2 _ ca _ cb a b w h (by omega)
  · exact More_k1 x0 v0 v1 v2 d0 d1 d2 _ ca _ cb a b w (by omega)

set_option maxRecDepth 100000 in
theorem lifted (os : Os) (started : os.Started) (H : Type) (enc : TypeId × Value → H) :
    ReturnsInHanded {} Try.checked os 5 .any (Rows.costMoreSpec.pre6 enc Try.prog Try.f5 Rows.costMoreRow.domain false) (Rows.costMoreSpec.post enc Try.prog Try.f5 false true false false) := by
  refine returnsInHanded_of_change (C := Try.checked) own started (by kernel_rfl) Try.func5
    (ChangeSpec.witness6 (enc := enc) (C := Try.checked) false ⟨#[], #[.agg #[.float .f64 0, .int .i64 0, .int .i64 0, .int .i64 0, .float .f64 0, .float .f64 0, .float .f64 0], .slice none 0 0, .slice none 0 0], []⟩ 8 (by kernel_rfl) (by kernel_rfl) (by kernel_rfl) (by kernel_rfl)) ?_
  intro W base args ds gs before hval0 hW hcnd _
  have hval : ∀ (j : Nat) t v, Try.f5.params[j]? = some t → args[j]? = some v → Value.okWide Try.prog W .any base t v := hval0
  have hW' := hW
  obtain ⟨p, q, hA0, hV, rfl, hfz, hnd⟩ := hW
  have hA : DataW.TrodAll enc Try.prog W 0 (fun _ => true) true Try.f5.params.toList args.toList ds p := hA0
  rw [Try.params5] at hA hval
  obtain ⟨v0, vs0, d0, ds0, p0, q0, hargs, rfl, rfl, h0, r0⟩ := trodAll_cons hA
  obtain ⟨v1, vs1, d1, ds1, p1, q1, rfl, rfl, rfl, h1, r1⟩ := trodAll_cons r0
  obtain ⟨v2, vs2, d2, ds2, p2, q2, rfl, rfl, rfl, h2, r2⟩ := trodAll_cons r1
  obtain ⟨rfl, rfl, rfl⟩ := trodAll_nil r2
  obtain rfl : args = #[v0, v1, v2] := by cases args; simp_all
  obtain ⟨rfl, rfl⟩ := trodVars_none hV
  have k0 := h0
  have k1 := h1
  have k2 := h2
  have lt0 : ∀ x ∈ p0, x.block < W.heap.size := by obtain ⟨m, hm⟩ := k0; exact DataW.trod_lt m _ _ _ hm
  have lt1 : ∀ x ∈ p1, x.block < W.heap.size := by obtain ⟨m, hm⟩ := k1; exact DataW.trod_lt m _ _ _ hm
  have lt2 : ∀ x ∈ p2, x.block < W.heap.size := by obtain ⟨m, hm⟩ := k2; exact DataW.trod_lt m _ _ _ hm
  obtain ⟨x0, i0, i1, i2, f0, f1, f2, rfl⟩ := open_look (hval 0 26 v0 rfl rfl)
  obtain ⟨a, na, ca, rfl, ka, hna, hba, hla, hza⟩ := open_known (hval 1 27 v1 rfl rfl) h1
  obtain ⟨b, nb, cb, rfl, kb, hnb, hbb, hlb, _⟩ := open_known (hval 2 27 v2 rfl rfl) h2
  clear hA0 hval0
  refine (walk i0 i1 i2 x0 f0 f1 f2 na ca nb cb a b ka kb hna hnb W hba hla hza hbb hlb).mono fun e W' ⟨he, bel⟩ => ?_
  subst he
  exact ⟨_, rfl, _, _, _, [], _, [], hW', trodAll_mk1 (shut_bool Try.underlying4 _), (trodAll_cons_mk (Below.trod laidOut (by kernel_rfl) (of_decide_eq_true (by kernel_rfl)) k0 bel lt0) (trodAll_cons_mk (Below.trod laidOut (by kernel_rfl) (of_decide_eq_true (by kernel_rfl)) k1 bel lt1) (trodAll_cons_mk (Below.trod laidOut (by kernel_rfl) (of_decide_eq_true (by kernel_rfl)) k2 bel lt2) trodAll_mk0))), rfl, bel.frame _, fun h => by cases h⟩

theorem over : Rows.costMoreRow.holds Try.pinned (OpenSpec.ofChange Rows.costMoreSpec) :=
  OpenClaim.holds_of_wide 5 Try.f5 rfl rfl rfl rfl rfl rfl rfl ⟨rfl, rfl, rfl, rfl, rfl⟩ rfl rfl rfl rfl rfl (by kernel_rfl) Try.func5 (by kernel_rfl)
    (of_decide_eq_true (by kernel_rfl)) (by unfold Func.isWrapper; first | (rw [if_pos (by decide +kernel)]; kernel_rfl) | (rw [if_neg (by decide +kernel)]; exact ⟨rfl, rfl⟩))
    (fun os started H enc _ => lifted os started H enc)
end Go.Proofs.Ytbdjdkfjbbhoeaa.costMore
namespace Go.Proofs.Ytbdjdkfjbbhoeaa
/-- the statement -/
theorem CostMore_holds : Rows.CostMoreSaid := costMore.over
#print axioms CostMore_holds
end Go.Proofs.Ytbdjdkfjbbhoeaa
