/- WatchApplies returns true at any answer and any news; its arguments read behind the call as before it. No condition but what the card ties: the listed tables hold what the program's text lays. -/
import Derived.Test.YtojkinikdcelbaaGreatDoorWatR
import Derived.Test.YtojkinikdcelbaaGreatDoorFE
import Derived.ProofKit
import Derived.OpenShut
import Derived.ChangeOld
import Derived.Below
import Derived.LaidMore
import Derived.LaidSub
import Derived.Lay
import Derived.MakeChecks
import Derived.Lib.LaidTab
import Derived.Shelf.Vars
import Derived.SevenTiedAt
import Derived.Stop.Joined
set_option linter.unusedSimpArgs false
set_option linter.unusedVariables false
set_option linter.defProp false
namespace Go.Proofs.YtojkinikdcelbaaGreatDoor.watchApplies
open Go.ChangeShapes Go.WideShapes Go.ChangeAt Go.RowKit

theorem own : ownKnob Tryz.prog.godebug = none := by kernel_rfl

/-- the wrap, with what the world's shape gives -/
theorem wrap {H : Type} {enc : TypeId × Value → H} {a : Assume} {C : Checked} {os : Os} {f : FuncId} {fn : Func} {s : ChangeSpec} {conds : List PathCond} {apart fresh handsOn again : Bool} {X : World → Array Value → Prop}
    (hX : ∀ (w w' : World) (args : Array Value), w.heap = w'.heap → X w args → X w' args)
    (own : ownKnob C.prog.godebug = none) (started : os.Started) (noInit : C.prog.inits.idxOf? f = none) (hfn : C.prog.funcs[f]? = some fn)
    (witness : ∃ (w : World) (tape : Tape) (i : Input), w.os = os ∧ (w.forCall tape i).Shaped C.prog ∧ i.vars = [] ∧ Input.okWide C.prog (w.forCall tape i) .any w.heap.size f i ∧
      ((s.pre enc C.prog fn conds apart (w.forCall tape i).memory i.args ∧ X (w.forCall tape i).memory i.args) ∧ sizedMet enc C.prog fn (OpenSpec.ofChange s) apart (w.forCall tape i).memory i.args) ∧ a.holds C.prog (lone (Frame.enter C.prog f i.args .normal) [] (w.forCall tape i)))
    (contract : ∀ (W : World) (base : Nat) (args : Array Value) (ds gs : List (DataW H)) (before : List MemPlace),
      (∀ (j : Nat) t v, fn.params[j]? = some t → args[j]? = some v → Value.okWide C.prog W .any base t v) →
      DataW.Whole enc C.prog fn.params.toList s.vars apart W args.toList ds gs before →
      conds.all (PathCond.test C.prog ⟨fn.params.toList, ds, s.plain.varTypes C.prog, gs⟩) = true →
      (DataW.weightsEach C.prog (fn.params.toList ++ s.plain.varTypes C.prog) (ds ++ gs)).all (· ≤ reachBytes) = true → X W args → W.ShapedOpen C.prog →
      a.holds C.prog (lone (Frame.enter C.prog f args .normal) [] W) →
      Calls C.prog f args W fun e W' => ∃ v, e = .returned v ∧ s.post enc C.prog fn apart fresh handsOn again W args v W') :
    ReturnsInHanded a C os f .any (fun w args => (s.pre enc C.prog fn conds apart w args ∧ X w args) ∧ sizedMet enc C.prog fn (OpenSpec.ofChange s) apart w args) (s.post enc C.prog fn apart fresh handsOn again) := by
  refine returnsInHanded_of_calls own started noInit witness ?_
  intro w tape i _ hsh _ hok hpre hholds
  obtain ⟨_, _, _, fn', hfn', _, _, _, _, hval⟩ := hok
  have e : fn' = fn := Option.some.inj (hfn'.symm.trans hfn)
  subst e
  obtain ⟨⟨⟨ds, gs, before, hw, hc⟩, hx⟩, hz⟩ := hpre
  have hw' := DataW.Whole.of_heap (w' := w.forCall tape i) (by rfl) hw
  refine (contract (w.forCall tape i) w.heap.size i.args ds gs before hval hw' hc (hz.weights hw) (hX _ _ _ (by rfl) hx) hsh hholds).mono fun e W' ⟨v, he, hp⟩ => ?_
  subst he
  exact ChangeSpec.post_blind hp

/- the two variables of Go's library -/
theorem hpow : Tryz.prog.globalNamed "internal/strconv.uint64pow10" = some 1 := by kernel_rfl
theorem hpowT : (Tryz.prog.globals[1]?).map (·.type) = some 466 := by kernel_rfl
theorem laidOne : Rows.watchAppliesRow.laid.filter (fun x => x.1 == "internal/strconv.uint64pow10") = [("internal/strconv.uint64pow10", Lib.tabData .u64 Lib.pow10Tab)] := by kernel_rfl
theorem plainOne : ([("internal/strconv.uint64pow10", (Lib.tabData .u64 Lib.pow10Tab : DataW Unit))].all fun x => x.2.handleName?.isNone) = true := by kernel_rfl
theorem powTy : ∃ (n e : Nat), Tryz.prog.underlying 466 = some (.array n e) ∧ Tryz.prog.underlying e = some (.int .u64) ∧ Tryz.prog.cellsOf e = 1 ∧ Tryz.prog.cellsOf 466 = n := ⟨_, _, Tryz.underlying466, by kernel_rfl, by kernel_rfl, by kernel_rfl⟩
theorem maxLen0 : ((begin Tryz.prog (fun _ _ => 0) default).world.heap[0]?).bind Obj.row? = some (#[.int .i64 0], 3) := by kernel_rfl
theorem low0 : 0 < Tryz.prog.globals.size := of_decide_eq_true (by kernel_rfl)
theorem bld3 : Tryz.prog.buildable 3 = true := by kernel_rfl
theorem cty3 : Tryz.prog.cellTypes Tryz.prog.depth 3 = some [3] := by kernel_rfl
theorem laidHere {W : World} (hL : laidMetH Tryz.prog Rows.watchAppliesRow.laid W) (hS : W.ShapedOpen Tryz.prog) : Go.Mir.laidP W := by
  refine ⟨cell_of_shapedOpen_int hS low0 maxLen0 rfl bld3 cty3 Tryz.underlying3, ?_⟩
  have h1 := hL.filter (fun x => x.1 == "internal/strconv.uint64pow10")
  rw [laidOne, MakeChecks.laidMetH_plain _ _ _ plainOne] at h1
  obtain ⟨n, e, U, Ue, ce, ct⟩ := powTy
  have T := Lib.tabIs_of_head hpow hpowT U Ue ce ct h1
  unfold Lib.TabIs World.var? at T
  rw [hpow] at T
  replace T : (match (W.heap[1]? : Option Obj) with | some (Obj.cells cs _ _) => some cs | _ => none) = some Go.Mir.powTab := T
  split at T
  · rename_i cs t fz hh
    cases T
    exact ⟨_, _, hh⟩
  · cases T

set_option maxRecDepth 100000 in
theorem under43 : ∃ f0 f1 f2 : Field, Tryz.prog.underlying 43 = some (.struct #[f0, f1, f2]) ∧ (f0.type = 41 ∧ f0.offset = 0) ∧ (f1.type = 9 ∧ f1.offset = 1) ∧ (f2.type = 9 ∧ f2.offset = 2) :=
  ⟨_, _, _, Tryz.underlying43, ⟨rfl, rfl⟩, ⟨rfl, rfl⟩, ⟨rfl, rfl⟩⟩
set_option maxRecDepth 100000 in
theorem under24 : ∃ r0 r1 : Field, Tryz.prog.underlying 24 = some (.struct #[r0, r1]) ∧ (r0.type = 4 ∧ r0.offset = 0) ∧ (r1.type = 22 ∧ r1.offset = 1) :=
  ⟨_, _, Tryz.underlying24, ⟨rfl, rfl⟩, ⟨rfl, rfl⟩⟩
set_option maxRecDepth 100000 in
theorem under26 : ∃ r0 r1 r2 r3 : Field, Tryz.prog.underlying 26 = some (.struct #[r0, r1, r2, r3]) ∧ (r0.type = 3 ∧ r0.offset = 0) ∧ (r1.type = 22 ∧ r1.offset = 1) ∧ (r2.type = 22 ∧ r2.offset = 2) ∧ (r3.type = 4 ∧ r3.offset = 3) :=
  ⟨_, _, _, _, Tryz.underlying26, ⟨rfl, rfl⟩, ⟨rfl, rfl⟩, ⟨rfl, rfl⟩, ⟨rfl, rfl⟩⟩
set_option maxRecDepth 100000 in
theorem tmTy : Go.Mir.TmTy Tryz.prog 9 41 43 :=
  ⟨under43, Tryz.underlying41, Tryz.underlying9, by kernel_rfl, by kernel_rfl, by kernel_rfl⟩
set_option maxRecDepth 100000 in
theorem openedA {H : Type} {enc : TypeId × Value → H} {W : World} {v : Value} {d : DataW H} {p : List MemPlace} (h : DataW.Trod enc Tryz.prog W 0 (fun _ => true) true 24 v d p) :
    ∃ (yes : Bool) (vr : Go.Mir.V) (rows : List (List Go.Mir.Tm)), Go.Mir.conc (Go.Mir.beta0 W) (.agg [.bool yes, vr]) = some v ∧ Go.Mir.RowsIn (Go.Mir.heap0 W) W.heap.size vr rows ∧ Go.Mir.In64s rows := by
  obtain ⟨r0, r1, U, e0, e1⟩ := under24
  exact Go.Mir.open_answer (t4 := 4) (t22 := 22) (t31 := 47) tmTy U e0 e1 Tryz.underlying4 Tryz.underlying22 Tryz.underlying47 (by kernel_rfl) (by kernel_rfl) (by kernel_rfl) (by kernel_rfl) h
set_option maxRecDepth 100000 in
theorem openedN {H : Type} {enc : TypeId × Value → H} {W : World} {v : Value} {d : DataW H} {p : List MemPlace} (h : DataW.Trod enc Tryz.prog W 0 (fun _ => true) true 26 v d p) :
    ∃ (z : Int) (yes : Bool) (vn vg : Go.Mir.V) (ln lg : List (List Go.Mir.Tm)), Go.Mir.conc (Go.Mir.beta0 W) (.agg [.int .i64 z, vn, vg, .bool yes]) = some v ∧ Go.Mir.RowsIn (Go.Mir.heap0 W) W.heap.size vn ln ∧ Go.Mir.RowsIn (Go.Mir.heap0 W) W.heap.size vg lg ∧ Go.Mir.In64s ln ∧ Go.Mir.In64s lg := by
  obtain ⟨r0, r1, r2, r3, U, e0, e1, e2, e3⟩ := under26
  exact Go.Mir.open_news (t3 := 3) (t4 := 4) (t22 := 22) (t31 := 47) tmTy U e0 e1 e2 e3 Tryz.underlying3 Tryz.underlying4 Tryz.underlying22 Tryz.underlying47 (by kernel_rfl) (by kernel_rfl) (by kernel_rfl) (by kernel_rfl) (by kernel_rfl) h

set_option maxRecDepth 100000 in
theorem lifted (os : Os) (started : os.Started) (H : Type) (enc : TypeId × Value → H) :
    ReturnsInHanded {} Tryz.checked os 3 .any (fun w args => (Rows.watchAppliesSpec.pre enc Tryz.prog Tryz.f3 Rows.watchAppliesRow.domain false w args ∧ laidMetH Tryz.prog Rows.watchAppliesRow.laid w) ∧ sizedMet enc Tryz.prog Tryz.f3 (OpenSpec.ofChange Rows.watchAppliesSpec) false w args)
      (Rows.watchAppliesSpec.post enc Tryz.prog Tryz.f3 false true false false) := by
  refine wrap (C := Tryz.checked) (X := fun w _ => laidMetH Tryz.prog Rows.watchAppliesRow.laid w) (fun _ _ _ hh h => h.of_heap hh) own started (by kernel_rfl) Tryz.func3
    (ChangeSpec.witness_shaped (enc := enc) (C := Tryz.checked) (os := os) (X := fun w _ => laidMetH Tryz.prog Rows.watchAppliesRow.laid w) false (World.laidAll Tryz.prog os Rows.watchAppliesRow.laid) #[.agg #[.bool false, .slice none 0 0], .agg #[.int .i64 0, .slice none 0 0, .slice none 0 0, .bool false]] 8 (World.laidAll_os _ _ _)
      (World.shaped_of_ZipB (by kernel_rfl) (by kernel_rfl)) (by kernel_rfl) (by kernel_rfl) (by kernel_rfl)
      (by rw [MakeChecks.laidMetH_plain _ _ _ (by kernel_rfl)]; exact laidMet_laidAll _ (by kernel_rfl) (by kernel_rfl))) ?_
  intro W base args ds gs before hval0 hW hc _ hL hS _
  have hval : ∀ (j : Nat) t v, Tryz.f3.params[j]? = some t → args[j]? = some v → Value.okWide Tryz.prog W .any base t v := hval0
  have hW' := hW
  obtain ⟨p, q, hA0, hV, rfl, _, _⟩ := hW
  have hA : DataW.TrodAll enc Tryz.prog W 0 (fun _ => true) true Tryz.f3.params.toList args.toList ds p := hA0
  rw [Tryz.params3] at hA hval
  obtain ⟨v0, vs0, d0, ds0, p0, q0, hargs, rfl, rfl, h0, r0⟩ := trodAll_cons hA
  obtain ⟨v1, vs1, d1, ds1, p1, q1, rfl, rfl, rfl, h1, r1⟩ := trodAll_cons r0
  obtain ⟨rfl, rfl, rfl⟩ := trodAll_nil r1
  obtain rfl : args = #[v0, v1] := by cases args; simp_all
  obtain ⟨rfl, rfl⟩ := trodVars_none hV
  have k0 := h0
  have k1 := h1
  have lt0 : ∀ x ∈ p0, x.block < W.heap.size := by obtain ⟨m, hm⟩ := k0; exact DataW.trod_lt m _ _ _ hm
  have lt1 : ∀ x ∈ p1, x.block < W.heap.size := by obtain ⟨m, hm⟩ := k1; exact DataW.trod_lt m _ _ _ hm
  obtain ⟨yes, vr, rows, xa, Rr, ba⟩ := openedA h0
  obtain ⟨z, more, vn, vg, ln, lg, xb, Rn, Rg, bn, bg⟩ := openedN h1
  clear hA0 hval0
  refine (Go.Mir.calls3 (laidHere hL hS) xa xb Rr Rn Rg ba bn bg).mono fun e W' ⟨he, bel⟩ => ?_
  subst he
  exact ⟨_, rfl, _, _, _, [], _, [], hW', trodAll_mk1 (shut_bool Tryz.underlying4 _), (trodAll_cons_mk (Below.trod watchApplies.k1 (by kernel_rfl) (of_decide_eq_true (by kernel_rfl)) k0 bel lt0) (trodAll_cons_mk (Below.trod watchApplies.k1 (by kernel_rfl) (of_decide_eq_true (by kernel_rfl)) k1 bel lt1)
    trodAll_mk0)), rfl, bel.frame _, fun h => by cases h⟩

theorem over : Rows.WatchAppliesSaid :=
  OpenClaim.holds_of_wide 3 Tryz.f3 rfl rfl rfl rfl rfl rfl rfl ⟨rfl, rfl, rfl, rfl, rfl⟩ rfl rfl rfl rfl rfl (by kernel_rfl) Tryz.func3 facts
    (of_decide_eq_true (by kernel_rfl)) (by unfold Func.isWrapper; first | (rw [if_pos (by decide +kernel)]; kernel_rfl) | (rw [if_neg (by decide +kernel)]; exact ⟨rfl, rfl⟩))
    (fun os started H enc _ => lifted os started H enc)
end Go.Proofs.YtojkinikdcelbaaGreatDoor.watchApplies
