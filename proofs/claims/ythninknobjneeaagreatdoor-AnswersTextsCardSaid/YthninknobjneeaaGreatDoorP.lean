/- AnswersTexts returns true at any question and any answer; its arguments read behind the call as before it. No condition but what the card ties: the listed tables hold what the program's text lays. -/
import Derived.Test.YthninknobjneeaaGreatDoorTexAR
import Derived.Test.YthninknobjneeaaGreatDoorF
import Derived.Test.YthninknobjneeaaGreatDoorTie
import Derived.Test.YthninknobjneeaaGreatDoorCards
import Derived.ProofKit
import Derived.OpenShut
import Derived.ChangeOld
import Derived.Below
import Derived.LaidMore
import Derived.Lay
import Derived.SevenTiedAt
import Derived.Stop.Joined
namespace Go.Proofs.YthninknobjneeaaGreatDoor.answersTexts
open Go.ChangeShapes Go.WideShapes Go.ChangeAt Go.RowKit

theorem own : ownKnob Tryz.prog.godebug = none := by kernel_rfl

set_option maxRecDepth 100000 in
theorem under47 : ∃ f0 f1 f2 : Field, Tryz.prog.underlying 47 = some (.struct #[f0, f1, f2]) ∧ (f0.type = 45 ∧ f0.offset = 0) ∧ (f1.type = 9 ∧ f1.offset = 1) ∧ (f2.type = 9 ∧ f2.offset = 2) :=
  ⟨_, _, _, Tryz.underlying47, ⟨rfl, rfl⟩, ⟨rfl, rfl⟩, ⟨rfl, rfl⟩⟩
set_option maxRecDepth 100000 in
theorem under49 : ∃ g0 g1 : Field, Tryz.prog.underlying 49 = some (.struct #[g0, g1]) ∧ (g0.type = 9 ∧ g0.offset = 0) ∧ (g1.type = 47 ∧ g1.offset = 1) :=
  ⟨_, _, Tryz.underlying49, ⟨rfl, rfl⟩, ⟨rfl, rfl⟩⟩
set_option maxRecDepth 100000 in
theorem under67 : ∃ k0 k1 k2 k3 : Field, Tryz.prog.underlying 67 = some (.struct #[k0, k1, k2, k3]) ∧ (k0.type = 65 ∧ k0.offset = 0) ∧ (k1.type = 51 ∧ k1.offset = 1) ∧ (k2.type = 49 ∧ k2.offset = 13) ∧ (k3.type = 49 ∧ k3.offset = 17) :=
  ⟨_, _, _, _, Tryz.underlying67, ⟨rfl, rfl⟩, ⟨rfl, rfl⟩, ⟨rfl, rfl⟩, ⟨rfl, rfl⟩⟩
set_option maxRecDepth 100000 in
theorem under25 : ∃ q0 q1 q2 q3 : Field, Tryz.prog.underlying 25 = some (.struct #[q0, q1, q2, q3]) ∧ (q0.type = 4 ∧ q0.offset = 0) ∧ (q1.type = 4 ∧ q1.offset = 1) ∧ (q2.type = 22 ∧ q2.offset = 2) ∧ (q3.type = 23 ∧ q3.offset = 3) :=
  ⟨_, _, _, _, Tryz.underlying25, ⟨rfl, rfl⟩, ⟨rfl, rfl⟩, ⟨rfl, rfl⟩, ⟨rfl, rfl⟩⟩
set_option maxRecDepth 100000 in
theorem under28 : ∃ r0 r1 : Field, Tryz.prog.underlying 28 = some (.struct #[r0, r1]) ∧ (r0.type = 4 ∧ r0.offset = 0) ∧ (r1.type = 26 ∧ r1.offset = 1) :=
  ⟨_, _, Tryz.underlying28, ⟨rfl, rfl⟩, ⟨rfl, rfl⟩⟩
set_option maxRecDepth 100000 in
theorem litTy : Go.Mir.LitTy Tryz.prog 9 45 47 65 49 51 67 :=
  ⟨under47, under49, Tryz.underlying51, under67, Tryz.underlying45, Tryz.underlying65, Tryz.underlying9, by kernel_rfl, by kernel_rfl, by kernel_rfl, by kernel_rfl, by kernel_rfl, by kernel_rfl, by kernel_rfl⟩

set_option maxRecDepth 100000 in
theorem openedQ {H : Type} {enc : TypeId × Value → H} {W : World} {v : Value} {d : DataW H} {p : List MemPlace} (h : DataW.Trod enc Tryz.prog W 0 (fun _ => true) true 25 v d p) :
    ∃ (ask dist : Bool) (vv vb : Go.Mir.V) (vars : List (List Nat)) (body : List Go.Mir.LitT), Go.Mir.conc (Go.Mir.beta0 W) (.agg [.bool ask, .bool dist, vv, vb]) = some v ∧ Go.Mir.StrIn (Go.Mir.heap0 W) W.heap.size vv vars ∧ Go.Mir.LitIn (Go.Mir.heap0 W) W.heap.size vb body ∧ ∀ i, i < body.length → Go.Mir.ByL (body.getD i Go.Mir.zLit) := by
  obtain ⟨q0, q1, q2, q3, U, e0, e1, e2, e3⟩ := under25
  exact Go.Mir.open_query (t4 := 4) (t33 := 22) (t34 := 23) litTy U e0 e1 e2 e3 Tryz.underlying4 Tryz.underlying22 Tryz.underlying23 (by kernel_rfl) (by kernel_rfl) (by kernel_rfl) (by kernel_rfl) h
set_option maxRecDepth 100000 in
theorem openedA {H : Type} {enc : TypeId × Value → H} {W : World} {v : Value} {d : DataW H} {p : List MemPlace} (h : DataW.Trod enc Tryz.prog W 0 (fun _ => true) true 28 v d p) :
    ∃ (yes : Bool) (vr : Go.Mir.V) (rows : List (List Go.Mir.Tm)), Go.Mir.conc (Go.Mir.beta0 W) (.agg [.bool yes, vr]) = some v ∧ Go.Mir.RowsIn (Go.Mir.heap0 W) W.heap.size vr rows ∧ Go.Mir.ByRows rows := by
  obtain ⟨r0, r1, U, e0, e1⟩ := under28
  exact Go.Mir.open_answer (t4 := 4) (t22 := 26) (t31 := 40) litTy U e0 e1 Tryz.underlying4 Tryz.underlying26 Tryz.underlying40 (by kernel_rfl) (by kernel_rfl) (by kernel_rfl) (by kernel_rfl) h

set_option maxRecDepth 100000 in
theorem lifted (os : Os) (started : os.Started) (H : Type) (enc : TypeId × Value → H) :
    ReturnsInHanded {} Tryz.checked os 3 .any (fun w args => (Rows.answersTextsSpec.pre enc Tryz.prog Tryz.f3 Rows.answersTextsRow.domain false w args ∧ laidMetH Tryz.prog Rows.answersTextsRow.laid w) ∧ sizedMet enc Tryz.prog Tryz.f3 (OpenSpec.ofChange Rows.answersTextsSpec) false w args)
      (Rows.answersTextsSpec.post enc Tryz.prog Tryz.f3 false true false false) := by
  refine returnsInHanded_of_change_and (C := Tryz.checked) (X := fun w _ => laidMetH Tryz.prog Rows.answersTextsRow.laid w) (fun _ _ _ hh h => h.of_heap hh) own started (by kernel_rfl) Tryz.func3
    (ChangeSpec.witness_shaped (enc := enc) (C := Tryz.checked) (os := os) (X := fun w _ => laidMetH Tryz.prog Rows.answersTextsRow.laid w) false (World.laidAll Tryz.prog os Rows.answersTextsRow.laid) #[.agg #[.bool false, .bool false, .slice none 0 0, .slice none 0 0], .agg #[.bool false, .slice none 0 0]] 8 (World.laidAll_os _ _ _)
      (World.shaped_of_ZipB (by kernel_rfl) (by kernel_rfl)) (by kernel_rfl) (by kernel_rfl) (by kernel_rfl)
      (by rw [MakeChecks.laidMetH_plain _ _ _ (by kernel_rfl)]; exact laidMet_laidAll _ (by kernel_rfl) (by kernel_rfl))) ?_
  intro W base args ds gs before hval0 hW hc _ hL _
  have hval : ∀ (j : Nat) t v, Tryz.f3.params[j]? = some t → args[j]? = some v → Value.okWide Tryz.prog W .any base t v := hval0
  have hW' := hW
  obtain ⟨p, q, hA0, hV, rfl, _, _⟩ := hW
  have hA : DataW.TrodAll enc Tryz.prog W 0 (fun _ => true) true Tryz.f3.params.toList args.toList ds p := hA0
  rw [Tryz.params3] at hA hval
  obtain ⟨v0, vs0, d0, ds0, p0, q0, hargs, rfl, rfl, h0, r0⟩ := trodAll_cons hA
  obtain ⟨v1, vs1, d1, ds1, p1, q1, rfl, rfl, rfl, h1, r1⟩ := trodAll_cons r0
  obtain ⟨rfl, rfl, rfl⟩ := trodAll_nil r1
  obtain rfl : args = #[v0, v1] := by cases args; simp_all
  obtain ⟨rfl, rfl⟩ := trodVars_none hV
  have k0 := h0
  have k1 := h1
  have lt0 : ∀ x ∈ p0, x.block < W.heap.size := by obtain ⟨m, hm⟩ := k0; exact DataW.trod_lt m _ _ _ hm
  have lt1 : ∀ x ∈ p1, x.block < W.heap.size := by obtain ⟨m, hm⟩ := k1; exact DataW.trod_lt m _ _ _ hm
  obtain ⟨ask, dist, vv, vb, vars, body, xa, Rv, Rb, bb⟩ := openedQ h0
  obtain ⟨yes, vr, rows, xb, Rr, br⟩ := openedA h1
  clear hA0 hval0
  refine (Go.Mir.calls4 xa xb Rv Rb Rr bb br).mono fun e W' ⟨he, bel⟩ => ?_
  subst he
  exact ⟨_, rfl, _, _, _, [], _, [], hW', trodAll_mk1 (shut_bool Tryz.underlying4 _), (trodAll_cons_mk (Below.trod answersTexts.k1 (by kernel_rfl) (of_decide_eq_true (by kernel_rfl)) k0 bel lt0) (trodAll_cons_mk (Below.trod answersTexts.k1 (by kernel_rfl) (of_decide_eq_true (by kernel_rfl)) k1 bel lt1)
    trodAll_mk0)), rfl, bel.frame _, fun h => by cases h⟩

theorem over : Rows.AnswersTextsSaid :=
  OpenClaim.holds_of_wide 3 Tryz.f3 rfl rfl rfl rfl rfl rfl rfl ⟨rfl, rfl, rfl, rfl, rfl⟩ rfl rfl rfl rfl rfl (by kernel_rfl) Tryz.func3 facts
    (of_decide_eq_true (by kernel_rfl)) (by unfold Func.isWrapper; first | (rw [if_pos (by decide +kernel)]; kernel_rfl) | (rw [if_neg (by decide +kernel)]; exact ⟨rfl, rfl⟩))
    (fun os started H enc _ => lifted os started H enc)
end Go.Proofs.YthninknobjneeaaGreatDoor.answersTexts
namespace Go.Proofs.YthninknobjneeaaGreatDoor
open Go.ChangeShapes Go.WideShapes Go.ChangeAt Go.RowKit
theorem stand25 : Tryz.prog.wantsStandIn 25 = false := by kernel_rfl
theorem stand28 : Tryz.prog.wantsStandIn 28 = false := by kernel_rfl
/-- the statement: the tied card of the law -/
theorem AnswersTexts_holds : Rows.AnswersTextsCardSaid :=
  Claim7.holds_tied_plain_at .later [] [.data, .pinned] true (true, "459489721c6441247db53734c2cc79b59058fb55b1b8a59a70677354b5e662e7") false answersTexts.over (fun _ h => by cases h) (by kernel_rfl) (fun _ h => by cases h) answersTexts_row_tie rfl ⟨rfl, rfl⟩ (by kernel_rfl) rfl
    (fun f fn hf hfn => by
      obtain rfl : f = 3 := Option.some.inj ((show Tryz.prog.funcNamed "rhizome/rhizomelaw20.AnswersTexts" = some 3 by kernel_rfl).symm.trans hf) |>.symm
      obtain rfl : fn = Tryz.f3 := (Option.some.inj (Tryz.func3.symm.trans hfn)).symm
      exact ⟨by kernel_rfl, fun j t ht => by
        rw [Tryz.params3] at ht
        match j, ht with
        | 0, ht => cases ht; exact stand25
        | 1, ht => cases ht; exact stand28
        | j + 2, ht => simp at ht⟩)
    (by kernel_rfl)
#print axioms AnswersTexts_holds
end Go.Proofs.YthninknobjneeaaGreatDoor
