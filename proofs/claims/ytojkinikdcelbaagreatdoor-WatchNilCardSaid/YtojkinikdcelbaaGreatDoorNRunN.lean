/- known() of layer 30 runs to true; WatchNil runs to true. No statement of the program is proved here. -/
import Derived.Test.YtojkinikdcelbaaGreatDoorNWatK
import Derived.Test.YtojkinikdcelbaaGreatDoorNB0
import Derived.Test.YtojkinikdcelbaaGreatDoorNB1
import Derived.Test.YtojkinikdcelbaaGreatDoorNB2
import Derived.Test.YtojkinikdcelbaaGreatDoorNB3
import Derived.Test.YtojkinikdcelbaaGreatDoorNB4
import Derived.Test.YtojkinikdcelbaaGreatDoorNRT
import Derived.Test.YtojkinikdcelbaaGreatDoorNRO
import Derived.KernelRfl
set_option linter.unusedSimpArgs false
set_option linter.unusedVariables false
set_option linter.defProp false
namespace Go.Mir
open Go Go.Proofs Go.RowKit
theorem hook2R : HookR Tryz.prog hook2 := fun f args m v hv => by
  unfold hook2 at hv
  cases q : Nat.beq f 40 with
  | true =>
    rw [q] at hv
    obtain rfl := Nat.eq_of_beq_eq_true q
    exact ⟨fnr40, fun W0 β n w vs H hvs => keyCall hv H hvs⟩
  | false =>
    rw [q] at hv
    exact tabR f args m v hv

theorem envIR : EnvR Tryz.prog envI := ⟨tysR, fnsR, extR, hook2R, mixedR, fun _ _ _ _ _ e => (bad_ne e).elim, fun _ _ e => forkK_ok e⟩
theorem subZ : preC (combZ zc) (execF envI 1000000) = .ok zc :=
  (preC_fork _ _).trans (combZ_of (fun o ho => by
    simp only [List.mem_cons, List.mem_nil_iff, or_false] at ho
    rcases ho with h | h | h | h | h
    · rw [h]; exact chkR_ok way0
    · rw [h]; exact chkR_ok way1
    · rw [h]; exact chkR_ok way2
    · rw [h]; exact chkR_ok way3
    · rw [h]; exact chkR_ok way4))
theorem envTR : EnvR Tryz.prog envT :=
  ⟨tysR, fnsR, extR, hook2R, mixedR, subTwo_ok (E := envT) (EI := envI) envIR rfl rfl (sub_ok envIR (fun _ _ _ _ => execF_ok envIR 1000000) subZ), fun _ _ e => (bad_ne e).elim⟩
theorem envOR : EnvR Tryz.prog envO := by
  obtain ⟨y, hy, hz⟩ := chkR_ok runT
  exact ⟨tysR, fnsR, extR, hook2R, mixedR, subTwo_ok (E := envO) (EI := envI) envIR rfl rfl (subRunV_ok (E := envT) (fun _ _ _ _ => execF_ok envTR 1000000) hy hz), fun _ _ e => (bad_ne e).elim⟩
theorem known6 : KnownCall Tryz.prog 6 [] (.bool true) := known_val envOR runO (vs := []) rfl rfl
noncomputable def hook6 (f : Nat) (args : List V) (h : T O) : Option V := match Nat.beq f 6 with | true => (match args with | [] => some (.bool true) | _ => none) | false => none
theorem hook6R : HookR Tryz.prog hook6 := hook_of fun f args m v h => by
  unfold hook6 at h
  split at h
  · rename_i q
    obtain rfl := Nat.eq_of_beq_eq_true q
    split at h
    · cases h
      exact ⟨known6.1, .inl ⟨fun β vs hvs => ⟨[], rfl⟩, fun _ => known6⟩⟩
    · cases h
  · cases h
noncomputable def hookN (f : Nat) (args : List V) (h : T O) : Option V := match hook6 f args h with | some v => some v | none => hookOf hookTab f args h
theorem hookNR : HookR Tryz.prog hookN := fun f args m v hv => by
  unfold hookN at hv
  split at hv
  · rename_i u q
    cases hv
    exact hook6R f args m _ q
  · exact tabR f args m v hv
noncomputable def envW : Env := { ext := exts, tys, fns, scripts, subs := .nil, subF := fun _ _ _ _ => bad 0, comb := fun _ => bad 0, hook := hookN }
theorem envWR : EnvR Tryz.prog envW := ⟨tysR, fnsR, extR, hookNR, mixedR, fun _ _ _ _ _ e => (bad_ne e).elim, fun _ _ e => (bad_ne e).elim⟩
theorem runW : isV (runF envW 1000000 4 [] (T.blank 13) 100) (.bool true) = true := by kernel_rfl
theorem calls4 {W : World} (L : laidP W) : Calls Tryz.prog 4 #[] W fun e W' => e = .returned (.bool true) ∧ Below W.heap.size W W' := bool_callsF envWR runW (vs := []) rfl W L
end Go.Mir
