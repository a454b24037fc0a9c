/- EngineNil returns true. It has no arguments; no condition but what the card ties: the listed tables hold what the program's text lays. -/
import Derived.Test.YtnpmklhlhegfbaaGreatDoorRun
import Derived.Test.YtnpmklhlhegfbaaGreatDoorFE
import Derived.Test.YtnpmklhlhegfbaaGreatDoorTieE
import Derived.Test.YtnpmklhlhegfbaaGreatDoorCards
import Derived.ProofKit
import Derived.OpenShut
import Derived.LaidMore
import Derived.Lay
import Derived.SevenTiedAt
import Derived.Stop.Joined
namespace Go.Proofs.YtnpmklhlhegfbaaGreatDoor.engineNil
open Go.ChangeShapes Go.WideShapes Go.ChangeAt Go.RowKit

theorem own : ownKnob Tryz.prog.godebug = none := by kernel_rfl

set_option maxRecDepth 100000 in
theorem lifted (os : Os) (started : os.Started) (H : Type) (enc : TypeId × Value → H) :
    ReturnsInHanded {} Tryz.checked os 3 .any (fun w args => (Rows.engineNilSpec.pre enc Tryz.prog Tryz.f3 Rows.engineNilRow.domain false w args ∧ laidMetH Tryz.prog Rows.engineNilRow.laid w) ∧ sizedMet enc Tryz.prog Tryz.f3 (OpenSpec.ofChange Rows.engineNilSpec) false w args)
      (Rows.engineNilSpec.post enc Tryz.prog Tryz.f3 false true false false) := by
  refine returnsInHanded_of_change_and (C := Tryz.checked) (X := fun w _ => laidMetH Tryz.prog Rows.engineNilRow.laid w) (fun _ _ _ hh h => h.of_heap hh) own started (by kernel_rfl) Tryz.func3
    (ChangeSpec.witness_shaped (enc := enc) (C := Tryz.checked) (os := os) (X := fun w _ => laidMetH Tryz.prog Rows.engineNilRow.laid w) false (World.laidAll Tryz.prog os Rows.engineNilRow.laid) #[] 8 (World.laidAll_os _ _ _)
      (World.shaped_of_ZipB (by kernel_rfl) (by kernel_rfl)) (by kernel_rfl) (by kernel_rfl) (by kernel_rfl)
      (by rw [MakeChecks.laidMetH_plain _ _ _ (by kernel_rfl)]; exact laidMet_laidAll _ (by kernel_rfl) (by kernel_rfl))) ?_
  intro W base args ds gs before hval0 hW hc _ hL _
  have hW' := hW
  obtain ⟨p, q, hA0, hV, rfl, _, _⟩ := hW
  have hA : DataW.TrodAll enc Tryz.prog W 0 (fun _ => true) true Tryz.f3.params.toList args.toList ds p := hA0
  rw [Tryz.params3] at hA
  obtain ⟨hargs, rfl, rfl⟩ := trodAll_nil hA
  obtain rfl : args = #[] := by cases args; simp_all
  obtain ⟨rfl, rfl⟩ := trodVars_none hV
  refine (Go.Mir.calls3 W).mono fun e W' ⟨he, bel⟩ => ?_
  subst he
  exact ⟨_, rfl, _, _, _, [], _, [], hW', trodAll_mk1 (shut_bool Tryz.underlying4 _), trodAll_mk0, rfl, bel.frame _, fun h => by cases h⟩

theorem over : Rows.EngineNilSaid :=
  OpenClaim.holds_of_wide 3 Tryz.f3 rfl rfl rfl rfl rfl rfl rfl ⟨rfl, rfl, rfl, rfl, rfl⟩ rfl rfl rfl rfl rfl (by kernel_rfl) Tryz.func3 facts
    (of_decide_eq_true (by kernel_rfl)) (by unfold Func.isWrapper; first | (rw [if_pos (by decide +kernel)]; kernel_rfl) | (rw [if_neg (by decide +kernel)]; exact ⟨rfl, rfl⟩))
    (fun os started H enc _ => lifted os started H enc)
end Go.Proofs.YtnpmklhlhegfbaaGreatDoor.engineNil
namespace Go.Proofs.YtnpmklhlhegfbaaGreatDoor
open Go.ChangeShapes Go.WideShapes Go.ChangeAt Go.RowKit
theorem hw : Rows.engineNilRow.wfByText (OpenSpec.ofChange Rows.engineNilSpec) = true := by kernel_rfl
theorem hm : Tryz.pinned.checked.prog.mainIs = some (true, ("0874b7521cd6035f8d3ffce65c13cca9dc8acd25a2ff625acd162a9bb25c5eb8").toList) := by kernel_rfl
theorem hnamed : Tryz.prog.funcNamed "rhizome/rhizomelaw26.EngineNil" = some 3 := by kernel_rfl
theorem hlooks : true = Tryz.pinned.checked.prog.looks [] := by kernel_rfl
theorem hstand (j : Nat) (t : TypeId) (ht : Tryz.f3.params[j]? = some t) : Tryz.pinned.checked.prog.wantsStandIn t = false := by
  have hp : Tryz.f3.params = #[] := by kernel_rfl
  rw [hp] at ht
  simp at ht
theorem g1 : (engineNil.clos.any fun g => (Tryz.prog.funcs[g]?).any Func.goes) = false := by kernel_rfl
theorem g2 : Tryz.prog.funcs.any Func.goes = false := by kernel_rfl
theorem g3 : Tryz.prog.goes 3 = false := by
  unfold Program.goes
  rw [engineNil.cl, g1, g2]
  simp
theorem g4 : Rows.engineNilRow.goesBy Tryz.pinned.checked.prog = ((Tryz.prog.funcNamed "rhizome/rhizomelaw26.EngineNil").any Tryz.prog.goes || false) := by
  unfold OpenClaim.goesBy Program.goesAt Program.goesFrom
  kernel_rfl
theorem hgoes : false = Rows.engineNilRow.goesBy Tryz.pinned.checked.prog := by
  rw [g4, hnamed, Option.any_some, g3]
  rfl
/-- the statement: the tied card of the law -/
theorem EngineNil_holds : Rows.EngineNilCardSaid :=
  Claim7.holds_tied_plain_at .later [] [.pinned, .data, .data, .listed, .data, .data, .pinned] true (true, "0874b7521cd6035f8d3ffce65c13cca9dc8acd25a2ff625acd162a9bb25c5eb8") true engineNil.over (fun _ h => by cases h) hw (fun _ h => by cases h) engineNil_row_tie rfl ⟨rfl, rfl⟩ hm rfl
    (fun f fn hf hfn => by
      obtain rfl : f = 3 := Option.some.inj (hnamed.symm.trans hf) |>.symm
      obtain rfl : fn = Tryz.f3 := (Option.some.inj (Tryz.func3.symm.trans hfn)).symm
      exact ⟨hlooks, fun j t ht => hstand j t ht⟩)
    hgoes
#print axioms EngineNil_holds
end Go.Proofs.YtnpmklhlhegfbaaGreatDoor
