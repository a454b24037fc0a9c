/- The terms' order and the chapter's own rows, as calls that are known; the law's call from any memory. No statement of the program is proved here. -/
import Derived.Test.YtnclpappnmoimaaGreatDoorAnsY
import Derived.Test.YtnclpappnmoimaaGreatDoorKno
set_option linter.unusedSimpArgs false
set_option linter.unusedVariables false
namespace Go.Mir
open Go Go.Proofs Go.RowKit Go.Srt

theorem asTm_some {v : V} {x : Tm} (h : asTm v = some x) : v = tv x := by
  unfold asTm at h
  split at h
  · cases h; rfl
  · cases h

theorem terms_plain {β : Beta} {x y : Tm} {vs : List Value} (h : concL β [tv x, tv y] = some vs) : ∃ us, concL noB [tv x, tv y] = some us :=
  ⟨vs, by simpa only [tv, conc, concL] using h⟩

theorem bind2 {a b : V} {v : V} (h : ((asTm a).bind fun x => (asTm b).map fun y => (V.int .i64 (cmpT x y))) = some v) : ∃ x y, a = tv x ∧ b = tv y ∧ v = .int .i64 (cmpT x y) := by
  obtain ⟨x, hx, h⟩ := Option.bind_eq_some_iff.1 h
  obtain ⟨y, hy, rfl⟩ := Option.map_eq_some_iff.1 h
  exact ⟨x, y, asTm_some hx, asTm_some hy, rfl⟩

theorem hook_cases {f : Nat} {args : List V} {v : V} (h : hook1 f args = some v) :
    (∃ x y, f = 27 ∧ args = [tv x, tv y] ∧ v = .int .i64 (cmpT x y)) ∨ (∃ x y, f = 28 ∧ args = [tv x, tv y] ∧ v = .int .i64 (cmpT x y)) ∨ (f = 5 ∧ args = [] ∧ v = .bool true) := by
  unfold hook1 at h
  split at h
  · split at h
    · obtain ⟨x, y, rfl, rfl, rfl⟩ := bind2 h
      exact .inl ⟨x, y, rfl, rfl, rfl⟩
    · cases h
  · split at h
    · obtain ⟨x, y, rfl, rfl, rfl⟩ := bind2 h
      exact .inr (.inl ⟨x, y, rfl, rfl, rfl⟩)
    · cases h
  · split at h
    · cases h; exact .inr (.inr ⟨rfl, rfl, rfl⟩)
    · cases h
  · cases h

theorem fnr27 : ∃ fn, Tryz.prog.funcs[27]? = some fn ∧ (fn.name == "runtime.NumGoroutine") = false ∧ fn.body.isNone = false := ⟨Tryz.f27, Tryz.func27, by kernel_rfl, by kernel_rfl⟩
theorem fnr28 : ∃ fn, Tryz.prog.funcs[28]? = some fn ∧ (fn.name == "runtime.NumGoroutine") = false ∧ fn.body.isNone = false := ⟨Tryz.f28, Tryz.func28, by kernel_rfl, by kernel_rfl⟩

theorem hook1R : HookR Tryz.prog hook1 := hook_of
  (fun f args v h => by
    rcases hook_cases h with ⟨x, y, rfl, rfl, rfl⟩ | ⟨x, y, rfl, rfl, rfl⟩ | ⟨rfl, rfl, rfl⟩
    · exact ⟨fnr27, fun ⟨vs, hvs⟩ => W_known env0R (d := 16) (n := 0) (v := .int .i64 (cmpT x y)) ((cmp_ok x y (T.blank 16) 0).run) hvs rfl fnr27⟩
    · exact ⟨fnr28, fun ⟨vs, hvs⟩ => W_known env0R (d := 16) (n := 0) (v := .int .i64 (cmpT x y)) ((cmp02_ok x y (T.blank 16) 0).run) hvs rfl fnr28⟩
    · exact ⟨known6.1, fun _ => known6⟩)
  (fun f args v h β vs hvs => by
    rcases hook_cases h with ⟨x, y, rfl, rfl, rfl⟩ | ⟨x, y, rfl, rfl, rfl⟩ | ⟨rfl, rfl, rfl⟩
    · exact terms_plain hvs
    · exact terms_plain hvs
    · exact ⟨[], rfl⟩)

theorem env1R : EnvR Tryz.prog env1 := ⟨tysR, fnsR, extR, hook1R, mixedR, fun _ _ _ _ _ e => (bad_ne e).elim, fun _ _ e => (bad_ne e).elim⟩

theorem calls3 {W : World} {x y : Value} {va vb : V} {la lb : List (List Tm)} {b : Bool} (hx : absV W x = some va) (hy : absV W y = some vb) (ha : RowsIn (heap0 W) W.heap.size va la) (hb : RowsIn (heap0 W) W.heap.size vb lb) :
    Calls Tryz.prog 3 #[x, y, .bool b] W fun e W' => e = .returned (.bool true) ∧ Below W.heap.size W W' := by
  have hv : concL (beta0 W) [va, vb, .bool b] = some [x, y, .bool b] := by
    simp only [concL, absV_conc W hx, absV_conc W hy, conc, Option.bind_some, Option.map_some]
  refine (W_calls env1R (law_ok (y := b) ha hb).run hv (HR.given W)).mono fun e w' ⟨r, hr, β', val, h1, h2, h3⟩ => ?_
  replace hr : r.v = .bool true := hr
  rw [hr] at h1
  cases h1
  exact ⟨h2, h3.below⟩
end Go.Mir
