/- The environment stands against the program; the law's call from any memory. No statement of the program is proved here. -/
import Derived.Test.YthninknobjneeaaGreatDoorWG
import Derived.Test.YthninknobjneeaaGreatDoorLay
import Derived.Test.YthninknobjneeaaGreatDoorMirAW
import Derived.Shelf.Strings.OnBuilder
import Derived.Test.YthninknobjneeaaGreatDoorTexAP
import Derived.Test.YthninknobjneeaaGreatDoorKno
set_option linter.unusedSimpArgs false
set_option linter.unusedVariables false
namespace Go.Mir
open Go Go.Proofs Go.RowKit

theorem join_lib {sep : List UInt8} : ∀ xs : List (List UInt8), joinL (sep.map UInt8.toNat) (xs.map fun x => x.map UInt8.toNat) = (Lib.join xs sep).map UInt8.toNat
  | [] => rfl
  | [a] => by simp [joinL, Lib.join, List.intercalate, List.intersperse]
  | a :: b :: l => by
    have ih := join_lib (sep := sep) (b :: l)
    show a.map UInt8.toNat ++ sep.map UInt8.toNat ++ joinL (sep.map UInt8.toNat) ((b :: l).map fun x => x.map UInt8.toNat) = _
    rw [ih]
    simp [Lib.join, List.intercalate, List.intersperse]

theorem strsFrom_some {t : T V} : ∀ {m off : Nat} {l : List (List Nat)}, strsFrom t m off = some l → l.length = m ∧ ∀ j s, l[j]? = some s → t.get (off + j) = some (.str s)
  | 0, _, l, h => by
    cases h
    exact ⟨rfl, fun j s q => by simp at q⟩
  | m + 1, off, l, h => by
    have h : ((strOfV (t.get off)).bind fun s => (strsFrom t m (off + 1)).map fun l => s :: l) = some l := h
    obtain ⟨s, hs, h⟩ := Option.bind_eq_some_iff.1 h
    obtain ⟨l', hl, rfl⟩ := Option.map_eq_some_iff.1 h
    obtain ⟨h1, h2⟩ := strsFrom_some hl
    refine ⟨by rw [List.length_cons, h1], fun j s' q => ?_⟩
    cases j with
    | zero =>
      have : s = s' := by simpa using q
      subst this
      rw [Nat.add_zero]
      unfold strOfV at hs
      split at hs
      · rename_i e; cases hs; exact e
      · cases hs
    | succ j =>
      have := h2 j s' (by simpa using q)
      rw [← this]; congr 1; omega

theorem back {l : List Nat} (h : allB l = true) : (bytesOf l).data.toList.map UInt8.toNat = l := by
  unfold bytesOf allB at *
  rw [List.toList_toArray, List.map_map]
  refine (List.map_congr_left fun b hb => ?_).trans (List.map_id l)
  have hb' : b < 256 := by simpa using List.all_eq_true.1 h b hb
  show (UInt8.ofNat b).toNat = b
  rw [UInt8.toNat_ofNat']; exact Nat.mod_eq_of_lt hb'
theorem conc_strQ {β : Beta} {l : List Nat} {x : Value} (h : conc β (.str l) = some x) : allB l = true ∧ x = .string (bytesOf l) := by
  have h : (if allB l then some (Value.string (bytesOf l)) else none) = some x := h
  split at h
  · rename_i q; cases h; exact ⟨q, rfl⟩
  · cases h
theorem conc_mapQ {β : Beta} {L : List UInt8} : conc β (.str (L.map UInt8.toNat)) = some (.string ⟨L.toArray⟩) := by
  have := absV_conc (w := default) (x := .string ⟨L.toArray⟩) (v := .str (L.map UInt8.toNat)) (by simp [absV])
  simpa [conc] using this

theorem joinCall {W0 w : World} {β : Beta} {m : T O} {n : Nat} {args : List V} {v : V} {vs : List Value} (h : joinHook args m = some v) (H : HR W0 β m n w) (hvs : concL β args = some vs) :
    ∃ val, conc β v = some val ∧ Calls Tryz.prog 42 vs.toArray w fun e w' => e = .returned val ∧ Below w.heap.size w w' := by
  unfold joinHook at h
  split at h
  · rename_i sv sep
    split at h
    · rename_i l hs
      split at h
      · rename_i hsz
        cases h
        have hvs : ((conc β sv).bind fun x => ((conc β (.str sep)).bind fun y => some [y]).map (x :: ·)) = some vs := hvs
        obtain ⟨x, hx, hvs⟩ := Option.bind_eq_some_iff.1 hvs
        obtain ⟨ys, hy, rfl⟩ := Option.map_eq_some_iff.1 hvs
        obtain ⟨y, hy1, hy2⟩ := Option.bind_eq_some_iff.1 hy
        cases hy2
        obtain ⟨hsep, rfl⟩ := conc_strQ hy1
        unfold strsOf at hs
        split at hs
        · cases hs
          have hx' : x = .slice none 0 0 := by
            have hx : (if (Value.slice none 0 0).oneCell' then some (Value.slice none 0 0) else none) = some x := hx
            split at hx
            · cases hx; rfl
            · cases hx
          subst hx'
          refine ⟨.string ⟨#[]⟩, rfl, ?_⟩
          exact (Any.strings_Join_none Tryz.lays156 Tryz.extra none 0 (bytesOf sep) w).mono fun e w' ⟨he, hw⟩ => ⟨he, hw ▸ Below.refl _ _⟩
        · rename_i id off len ex k lo _
          split at hs
          · rename_i t M hg
            split at hs
            · rename_i hM
              obtain ⟨hl, hget⟩ := strsFrom_some hs
              obtain ⟨b, hb, hx⟩ := Option.bind_eq_some_iff.1 (show ((β id).bind fun b => if lo ≤ capOf b ex k then some (Value.slice (some ⟨b.blk, b.off + off, none⟩) len (capOf b ex k)) else none) = some x from hx)
              split at hx
              · rename_i hcap
                cases hx
                obtain ⟨c, elem, frz, hob, _, _, _, hc⟩ := H.obj id _ b hg hb
                have cell : ∀ j s, l[j]? = some s → allB s = true ∧ c[b.off + (off + j)]? = some (.string (bytesOf s)) := fun j s hj => by
                  have hjl : j < len := by rw [← hl]; exact (List.getElem?_eq_some_iff.1 hj).1
                  obtain ⟨z, hz1, hz2⟩ := hc (off + j) _ (by omega) (hget j s hj)
                  obtain ⟨q1, rfl⟩ := conc_strQ hz2
                  exact ⟨q1, hz1⟩
                have e1 : joinL sep l = (Lib.join ((l.map bytesOf).map (·.data.toList)) (bytesOf sep).data.toList).map UInt8.toNat := by
                  rw [← join_lib, back hsep, List.map_map, List.map_map]
                  congr 1
                  refine ((List.map_congr_left fun s hs' => ?_).trans (List.map_id l)).symm
                  obtain ⟨j, hj, rfl⟩ := List.getElem_of_mem hs'
                  exact back (cell j _ (List.getElem?_eq_getElem hj)).1
                have hlen2 : (Lib.join ((l.map bytesOf).map (·.data.toList)) (bytesOf sep).data.toList).length ≤ 140737488355328 := by
                  have := hsz.2
                  rw [e1, List.length_map] at this; omega
                refine ⟨.string ⟨(Lib.join ((l.map bytesOf).map (·.data.toList)) (bytesOf sep).data.toList).toArray⟩, by rw [e1]; exact conc_mapQ, ?_⟩
                have J := Any.strings_Join Tryz.lays156 Tryz.extra b.blk (b.off + off) (capOf b ex k) (l.map bytesOf) (bytesOf sep) w (fun j x' hx' => by
                  obtain ⟨s, hs1, rfl⟩ := by simpa [List.getElem?_map] using hx'
                  obtain ⟨_, hcj⟩ := cell j s hs1
                  unfold World.cell?
                  rw [show b.off + off + j = b.off + (off + j) by omega, hob]
                  exact hcj) (H.dom id b hb).2 (by rw [List.length_map]; omega) (by rw [List.length_map]; omega) hlen2
                rw [List.length_map, hl] at J
                exact J
              · cases hx
            · cases hs
          · cases hs
        · cases hs
      · cases h
    · cases h
  · cases h

end Go.Mir
namespace Go.Mir
open Go Go.Proofs Go.RowKit

theorem fnr42 : ∃ fn, Tryz.prog.funcs[42]? = some fn ∧ (fn.name == "runtime.NumGoroutine") = false ∧ fn.body.isNone = false := ⟨Tryz.f42, Tryz.func42, by kernel_rfl, by kernel_rfl⟩
theorem hookR : HookR Tryz.prog (hookJ 42 6) := hook_of fun f args m v h => by
  unfold hookJ at h
  split at h
  · rename_i e
    obtain rfl := Nat.eq_of_beq_eq_true e
    exact ⟨fnr42, .inr fun W0 β n w vs H hvs => joinCall h H hvs⟩
  · split at h
    · rename_i e
      obtain rfl := Nat.eq_of_beq_eq_true e
      unfold trueHook at h
      split at h
      · cases h
        exact ⟨known6.1, .inl ⟨fun _ _ _ => ⟨[], rfl⟩, fun _ => known6⟩⟩
      · cases h
    · cases h
theorem env0R : EnvR Tryz.prog env0 := ⟨tysR, fnsR, extR, hookR, mixedR, fun _ _ _ _ _ e => (bad_ne e).elim, fun _ _ e => (bad_ne e).elim⟩

theorem calls4 {W : World} {x y : Value} {vv vb vr : V} {ask dist yes : Bool} {vars : List (List Nat)} {body : List LitT} {rows : List (List Tm)} (hx : conc (beta0 W) (.agg [.bool ask, .bool dist, vv, vb]) = some x) (hy : conc (beta0 W) (.agg [.bool yes, vr]) = some y)
    (Rv : StrIn (heap0 W) W.heap.size vv vars) (Rb : LitIn (heap0 W) W.heap.size vb body) (Rr : RowsIn (heap0 W) W.heap.size vr rows) (bb : ∀ i, i < body.length → ByL (body.getD i zLit)) (br : ByRows rows) :
    Calls Tryz.prog 3 #[x, y] W fun e W' => e = .returned (.bool true) ∧ Below W.heap.size W W' := by
  have hv : concL (beta0 W) [.agg [.bool ask, .bool dist, vv, vb], .agg [.bool yes, vr]] = some [x, y] := by
    simp only [concL, hx, hy, Option.bind_some, Option.map_some]
  refine (W_calls env0R (law4_ok Rv Rb Rr bb br).run hv (HR.given W)).mono fun e w' ⟨r, hr, β', val, h1, h2, h3⟩ => ?_
  replace hr : r.v = .bool true := hr
  rw [hr] at h1
  cases h1
  exact ⟨h2, h3.below⟩
end Go.Mir
