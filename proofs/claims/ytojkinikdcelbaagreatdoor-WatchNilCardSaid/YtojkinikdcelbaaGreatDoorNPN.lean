/- WatchNil returns true. It has no arguments; no condition but what the card ties: the listed tables hold what the program's text lays. -/
import Derived.Test.YtojkinikdcelbaaGreatDoorNRunN
import Derived.Test.YtojkinikdcelbaaGreatDoorNFE
import Derived.Test.YtojkinikdcelbaaGreatDoorNTieE
import Derived.Test.YtojkinikdcelbaaGreatDoorCards
import Derived.ProofKit
import Derived.OpenShut
import Derived.ChangeOld
import Derived.Below
import Derived.LaidMore
import Derived.LaidSub
import Derived.Lay
import Derived.MakeChecks
import Derived.Lib.LaidTab
import Derived.Shelf.Vars
import Derived.SevenTiedAt
import Derived.Stop.Joined
set_option linter.unusedSimpArgs false
set_option linter.unusedVariables false
set_option linter.defProp false
namespace Go.Proofs.YtojkinikdcelbaaGreatDoor.watchNil
open Go.ChangeShapes Go.WideShapes Go.ChangeAt Go.RowKit

theorem own : ownKnob Tryz.prog.godebug = none := by kernel_rfl

/-- the wrap, with what the world's shape gives -/
theorem wrap {H : Type} {enc : TypeId × Value → H} {a : Assume} {C : Checked} {os : Os} {f : FuncId} {fn : Func} {s : ChangeSpec} {conds : List PathCond} {apart fresh handsOn again : Bool} {X : World → Array Value → Prop}
    (hX : ∀ (w w' : World) (args : Array Value), w.heap = w'.heap → X w args → X w' args)
    (own : ownKnob C.prog.godebug = none) (started : os.Started) (noInit : C.prog.inits.idxOf? f = none) (hfn : C.prog.funcs[f]? = some fn)
    (witness : ∃ (w : World) (tape : Tape) (i : Input), w.os = os ∧ (w.forCall tape i).Shaped C.prog ∧ i.vars = [] ∧ Input.okWide C.prog (w.forCall tape i) .any w.heap.size f i ∧
      ((s.pre enc C.prog fn conds apart (w.forCall tape i).memory i.args ∧ X (w.forCall tape i).memory i.args) ∧ sizedMet enc C.prog fn (OpenSpec.ofChange s) apart (w.forCall tape i).memory i.args) ∧ a.holds C.prog (lone (Frame.enter C.prog f i.args .normal) [] (w.forCall tape i)))
    (contract : ∀ (W : World) (base : Nat) (args : Array Value) (ds gs : List (DataW H)) (before : List MemPlace),
      (∀ (j : Nat) t v, fn.params[j]? = some t → args[j]? = some v → Value.okWide C.prog W .any base t v) →
      DataW.Whole enc C.prog fn.params.toList s.vars apart W args.toList ds gs before →
      conds.all (PathCond.test C.prog ⟨fn.params.toList, ds, s.plain.varTypes C.prog, gs⟩) = true →
      (DataW.weightsEach C.prog (fn.params.toList ++ s.plain.varTypes C.prog) (ds ++ gs)).all (· ≤ reachBytes) = true → X W args → W.ShapedOpen C.prog →
      a.holds C.prog (lone (Frame.enter C.prog f args .normal) [] W) →
      Calls C.prog f args W fun e W' => ∃ v, e = .returned v ∧ s.post enc C.prog fn apart fresh handsOn again W args v W') :
    ReturnsInHanded a C os f .any (fun w args => (s.pre enc C.prog fn conds apart w args ∧ X w args) ∧ sizedMet enc C.prog fn (OpenSpec.ofChange s) apart w args) (s.post enc C.prog fn apart fresh handsOn again) := by
  refine returnsInHanded_of_calls own started noInit witness ?_
  intro w tape i _ hsh _ hok hpre hholds
  obtain ⟨_, _, _, fn', hfn', _, _, _, _, hval⟩ := hok
  have e : fn' = fn := Option.some.inj (hfn'.symm.trans hfn)
  subst e
  obtain ⟨⟨⟨ds, gs, before, hw, hc⟩, hx⟩, hz⟩ := hpre
  have hw' := DataW.Whole.of_heap (w' := w.forCall tape i) (by rfl) hw
  refine (contract (w.forCall tape i) w.heap.size i.args ds gs before hval hw' hc (hz.weights hw) (hX _ _ _ (by rfl) hx) hsh hholds).mono fun e W' ⟨v, he, hp⟩ => ?_
  subst he
  exact ChangeSpec.post_blind hp

/- the two variables of Go's library -/
theorem hpow : Tryz.prog.globalNamed "internal/strconv.uint64pow10" = some 1 := by kernel_rfl
theorem hpowT : (Tryz.prog.globals[1]?).map (·.type) = some 466 := by kernel_rfl
theorem laidOne : Rows.watchNilRow.laid.filter (fun x => x.1 == "internal/strconv.uint64pow10") = [("internal/strconv.uint64pow10", Lib.tabData .u64 Lib.pow10Tab)] := by kernel_rfl
theorem plainOne : ([("internal/strconv.uint64pow10", (Lib.tabData .u64 Lib.pow10Tab : DataW Unit))].all fun x => x.2.handleName?.isNone) = true := by kernel_rfl
theorem powTy : ∃ (n e : Nat), Tryz.prog.underlying 466 = some (.array n e) ∧ Tryz.prog.underlying e = some (.int .u64) ∧ Tryz.prog.cellsOf e = 1 ∧ Tryz.prog.cellsOf 466 = n := ⟨_, _, Tryz.underlying466, by kernel_rfl, by kernel_rfl, by kernel_rfl⟩
theorem maxLen0 : ((begin Tryz.prog (fun _ _ => 0) default).world.heap[0]?).bind Obj.row? = some (#[.int .i64 0], 3) := by kernel_rfl
theorem low0 : 0 < Tryz.prog.globals.size := of_decide_eq_true (by kernel_rfl)
theorem bld3 : Tryz.prog.buildable 3 = true := by kernel_rfl
theorem cty3 : Tryz.prog.cellTypes Tryz.prog.depth 3 = some [3] := by kernel_rfl
theorem laidHere {W : World} (hL : laidMetH Tryz.prog Rows.watchNilRow.laid W) (hS : W.ShapedOpen Tryz.prog) : Go.Mir.laidP W := by
  refine ⟨cell_of_shapedOpen_int hS low0 maxLen0 rfl bld3 cty3 Tryz.underlying3, ?_⟩
  have h1 := hL.filter (fun x => x.1 == "internal/strconv.uint64pow10")
  rw [laidOne, MakeChecks.laidMetH_plain _ _ _ plainOne] at h1
  obtain ⟨n, e, U, Ue, ce, ct⟩ := powTy
  have T := Lib.tabIs_of_head hpow hpowT U Ue ce ct h1
  unfold Lib.TabIs World.var? at T
  rw [hpow] at T
  replace T : (match (W.heap[1]? : Option Obj) with | some (Obj.cells cs _ _) => some cs | _ => none) = some Go.Mir.powTab := T
  split at T
  · rename_i cs t fz hh
    cases T
    exact ⟨_, _, hh⟩
  · cases T

set_option maxRecDepth 100000 in
theorem lifted (os : Os) (started : os.Started) (H : Type) (enc : TypeId × Value → H) :
    ReturnsInHanded {} Tryz.checked os 4 .any (fun w args => (Rows.watchNilSpec.pre enc Tryz.prog Tryz.f4 Rows.watchNilRow.domain false w args ∧ laidMetH Tryz.prog Rows.watchNilRow.laid w) ∧ sizedMet enc Tryz.prog Tryz.f4 (OpenSpec.ofChange Rows.watchNilSpec) false w args)
      (Rows.watchNilSpec.post enc Tryz.prog Tryz.f4 false true false false) := by
  refine wrap (C := Tryz.checked) (X := fun w _ => laidMetH Tryz.prog Rows.watchNilRow.laid w) (fun _ _ _ hh h => h.of_heap hh) own started (by kernel_rfl) Tryz.func4
    (ChangeSpec.witness_shaped (enc := enc) (C := Tryz.checked) (os := os) (X := fun w _ => laidMetH Tryz.prog Rows.watchNilRow.laid w) false (World.laidAll Tryz.prog os Rows.watchNilRow.laid) #[] 8 (World.laidAll_os _ _ _)
      (World.shaped_of_ZipB (by kernel_rfl) (by kernel_rfl)) (by kernel_rfl) (by kernel_rfl) (by kernel_rfl)
      (by rw [MakeChecks.laidMetH_plain _ _ _ (by kernel_rfl)]; exact laidMet_laidAll _ (by kernel_rfl) (by kernel_rfl))) ?_
  intro W base args ds gs before hval0 hW hc _ hL hS _
  have hW' := hW
  obtain ⟨p, q, hA0, hV, rfl, _, _⟩ := hW
  have hA : DataW.TrodAll enc Tryz.prog W 0 (fun _ => true) true Tryz.f4.params.toList args.toList ds p := hA0
  rw [Tryz.params4] at hA
  obtain ⟨hargs, rfl, rfl⟩ := trodAll_nil hA
  obtain rfl : args = #[] := by cases args; simp_all
  obtain ⟨rfl, rfl⟩ := trodVars_none hV
  refine (Go.Mir.calls4 (laidHere hL hS)).mono fun e W' ⟨he, bel⟩ => ?_
  subst he
  exact ⟨_, rfl, _, _, _, [], _, [], hW', trodAll_mk1 (shut_bool Tryz.underlying4 _), trodAll_mk0, rfl, bel.frame _, fun h => by cases h⟩

theorem over : Rows.WatchNilSaid :=
  OpenClaim.holds_of_wide 4 Tryz.f4 rfl rfl rfl rfl rfl rfl rfl ⟨rfl, rfl, rfl, rfl, rfl⟩ rfl rfl rfl rfl rfl (by kernel_rfl) Tryz.func4 facts
    (of_decide_eq_true (by kernel_rfl)) (by unfold Func.isWrapper; first | (rw [if_pos (by decide +kernel)]; kernel_rfl) | (rw [if_neg (by decide +kernel)]; exact ⟨rfl, rfl⟩))
    (fun os started H enc _ => lifted os started H enc)
end Go.Proofs.YtojkinikdcelbaaGreatDoor.watchNil
namespace Go.Proofs.YtojkinikdcelbaaGreatDoor
open Go.ChangeShapes Go.WideShapes Go.ChangeAt Go.RowKit
theorem hw : Rows.watchNilRow.wfByText (OpenSpec.ofChange Rows.watchNilSpec) = true := by kernel_rfl
theorem hm : Tryz.pinned.checked.prog.mainIs = some (true, ("0d3a6b0f26ce9e907cb8a89233c303b50d98f87d0022383654bb6378a42a1dc0").toList) := by kernel_rfl
theorem hnamed : Tryz.prog.funcNamed "rhizome/rhizomelaw30.WatchNil" = some 4 := by kernel_rfl
theorem hlooks : true = Tryz.pinned.checked.prog.looks [] := by kernel_rfl
theorem hstand (j : Nat) (t : TypeId) (ht : Tryz.f4.params[j]? = some t) : Tryz.pinned.checked.prog.wantsStandIn t = false := by
  have hp : Tryz.f4.params = #[] := by kernel_rfl
  rw [hp] at ht
  simp at ht
theorem g1 : (watchNil.clos.any fun g => (Tryz.prog.funcs[g]?).any Func.goes) = false := by kernel_rfl
theorem g2 : Tryz.prog.funcs.any Func.goes = false := by kernel_rfl
theorem g3 : Tryz.prog.goes 4 = false := by
  unfold Program.goes
  rw [watchNil.cl, g1, g2]
  simp
theorem g4 : Rows.watchNilRow.goesBy Tryz.pinned.checked.prog = ((Tryz.prog.funcNamed "rhizome/rhizomelaw30.WatchNil").any Tryz.prog.goes || false) := by
  unfold OpenClaim.goesBy Program.goesAt Program.goesFrom
  kernel_rfl
theorem hgoes : false = Rows.watchNilRow.goesBy Tryz.pinned.checked.prog := by
  rw [g4, hnamed, Option.any_some, g3]
  rfl
/-- the statement: the tied card of the law -/
theorem WatchNil_holds : Rows.WatchNilCardSaid :=
  Claim7.holds_tied_plain_at .later [] [.pinned, .data, .data, .listed, .data, .data, .pinned, .data, .data, .data] true (true, "0d3a6b0f26ce9e907cb8a89233c303b50d98f87d0022383654bb6378a42a1dc0") true watchNil.over (fun _ h => by cases h) hw (fun _ h => by cases h) watchNil_row_tie rfl ⟨rfl, rfl⟩ hm rfl
    (fun f fn hf hfn => by
      obtain rfl : f = 4 := Option.some.inj (hnamed.symm.trans hf) |>.symm
      obtain rfl : fn = Tryz.f4 := (Option.some.inj (Tryz.func4.symm.trans hfn)).symm
      exact ⟨hlooks, fun j t ht => hstand j t ht⟩)
    hgoes
#print axioms WatchNil_holds
end Go.Proofs.YtojkinikdcelbaaGreatDoor
