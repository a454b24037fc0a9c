/- known() of layer 30 runs to true; what is known of calls; the law's call from any memory. No statement of the program is proved here. -/
import Derived.Test.YtojkinikdcelbaaGreatDoorWatW
import Derived.Deep.Strs
import Derived.ProofKit
import Derived.OpenShut
import Derived.Lib.SmallJoins
import Derived.Test.YtojkinikdcelbaaGreatDoorMay
import Derived.Test.YtojkinikdcelbaaGreatDoorPK
import Derived.Test.YtojkinikdcelbaaGreatDoorB0
import Derived.Test.YtojkinikdcelbaaGreatDoorB1
import Derived.Test.YtojkinikdcelbaaGreatDoorB2
import Derived.Test.YtojkinikdcelbaaGreatDoorB3
import Derived.Test.YtojkinikdcelbaaGreatDoorB4
import Derived.Test.YtojkinikdcelbaaGreatDoorRT
import Derived.Test.YtojkinikdcelbaaGreatDoorRO
import Derived.Test.YtojkinikdcelbaaGreatDoorWatK
set_option linter.unusedSimpArgs false
set_option linter.unusedVariables false
set_option linter.defProp false
namespace Go.Mir
open Go Go.Proofs Go.Srt
set_option maxRecDepth 4000
set_option maxHeartbeats 8000000

/-- a term's number is one of 64 bits -/
def In64 (x : Tm) : Prop := -9223372036854775808 ≤ x.1 ∧ x.1 ≤ 9223372036854775807
def In64s (l : List (List Tm)) : Prop := ∀ r ∈ l, ∀ x ∈ r, In64 x
theorem okRs_of {la : List (List Tm)} (f : FewT la) (b : In64s la) : OkRs la := by
  refine ⟨f.1, fun i hi => ⟨(f.2 i hi).1, fun t ht => ?_⟩⟩
  obtain ⟨k, hk, rfl⟩ := List.getElem_of_mem ht
  have e : (la.getD i []).getD k (0, [], []) = (la.getD i [])[k] := by rw [List.getD_eq_getElem?_getD, List.getElem?_eq_getElem hk]; rfl
  have h1 := (f.2 i hi).2 k hk
  rw [e] at h1
  have hm : la.getD i [] ∈ la := by rw [List.getD_eq_getElem?_getD, List.getElem?_eq_getElem hi]; exact List.getElem_mem hi
  exact ⟨(b _ hm _ ht).1, (b _ hm _ ht).2, h1.1, h1.2⟩

theorem much5_ok {h : T O} {n : Nat} {va : V} {la : List (List Tm)} (ha : Rows h va la) :
    Fn env1 5 [va] h n (fun v h' n' => (∃ b, v = .bool b ∧ (b = false → FewT la)) ∧ h' = h ∧ n' = n) := by
  refine Fn.mk fn5 rfl fz5 (by simp) fun Q cs K => ?_
  simp (maxSteps := 2000000) (disch := first | omega | assumption) only [↓mCode, ↓mOps, mAll, seval, vPtr, ite_ne, wrap_i64, boundN_int, e1_tys, e1_fns, fn5, Tryz.f5]
  refine (much_any ha).call rfl e1_subs ?_
  rintro _ h n ⟨⟨b, rfl, hb⟩, rfl, rfl⟩
  simp (maxSteps := 2000000) (disch := first | omega | assumption) only [↓mCode, ↓mOps, mAll, seval, vPtr, ite_ne, wrap_i64, boundN_int, e1_tys, e1_fns, fn5, Tryz.f5]
  exact K _ _ _ ⟨⟨b, rfl, hb⟩, rfl, rfl⟩

theorem cells_all {h : T O} {id m e : Nat} {l : List V} (hg : h.get id = some (.cells (ofT l) m e)) (hm : l.length = m) {kk : List V → Out} : cellsAt h id 0 m kk = kk l := by
  subst hm
  rw [cellsAt_eq, hg]
  show need (Nat.ble (0 + l.length) l.length) (loadN (ofT l) 0 l.length kk) = _
  rw [need_ble (by omega), loadN_ofT (by omega), List.drop_zero, List.take_of_length_le (Nat.le_refl _)]

/-- THE LAW -/
theorem law3_ok {h : T O} {n : Nat} {va vn vg : V} {la ln lg : List (List Tm)} {y y2 : Bool} {z : Int} (ha : RowsIn h n va la) (hn : RowsIn h n vn ln) (hg : RowsIn h n vg lg) (ba : In64s la) (bn : In64s ln) (bg : In64s lg) :
    Fn env1 3 [.agg [.bool y, va], .agg [.int .i64 z, vn, vg, .bool y2]] h n (fun v _ _ => v = .bool true) := by
  refine Fn.mk fn3 rfl fz3 (by simp) fun Q cs K => ?_
  have ca : cellsOf va = [va] := cellsOf_one ha.one
  have oa : oneV va = true := ha.one
  have cn : cellsOf vn = [vn] := cellsOf_one hn.one
  have on : oneV vn = true := hn.one
  have cg : cellsOf vg = [vg] := cellsOf_one hg.one
  have og : oneV vg = true := hg.one
  simp (maxSteps := 2000000) (disch := first | omega | assumption) only [↓mCode, ↓mOps, mAll, seval, vPtr, ite_ne, wrap_i64, boundN_int, e1_tys, e1_fns, fn3, Tryz.f3, ca, oa, cn, on, cg, og]
  generalize hH : (h.put n (some (O.cells (ofT [V.bool y, va]) 2 2))).put (n + 1) (some (O.cells (ofT [V.int IntKind.i64 z, vn, vg, V.bool y2]) 4 4)) = H0
  have q0 : H0.get n = some (O.cells (ofT [V.bool y, va]) 2 2) := by rw [← hH, T.get_put, if_neg (by omega), T.get_put, if_pos rfl]
  have q1 : H0.get (n + 1) = some (O.cells (ofT [V.int IntKind.i64 z, vn, vg, V.bool y2]) 4 4) := by rw [← hH, T.get_put, if_pos rfl]
  have G0 : Gro h n H0 (n + 1 + 1) := by rw [← hH]; exact ((Gro.refl h n).put _).put _
  clear hH
  have cN : ∀ {h' : T O}, h'.get (n + 1) = some (O.cells (ofT [V.int IntKind.i64 z, vn, vg, V.bool y2]) 4 4) → ∀ {kk : V → Out}, cellAt h' (n + 1) 1 kk = kk vn := fun q => cell_of q (by omega) rfl
  have cG : ∀ {h' : T O}, h'.get (n + 1) = some (O.cells (ofT [V.int IntKind.i64 z, vn, vg, V.bool y2]) 4 4) → ∀ {kk : V → Out}, cellAt h' (n + 1) 2 kk = kk vg := fun q => cell_of q (by omega) rfl
  have cN0 := @cN H0 q1
  have cG0 := @cG H0 q1
  refine (much5_ok (ha.ext G0).rows).call rfl e1_subs ?_
  rintro _ H0 n0 ⟨⟨b1, rfl, f1⟩, rfl, rfl⟩
  cases b1 with
  | true =>
    simp (maxSteps := 2000000) (disch := first | omega | assumption) only [↓mCode, ↓mOps, mAll, seval, vPtr, ite_ne, wrap_i64, boundN_int, e1_tys, e1_fns, fn3, Tryz.f3, ent6]
    exact K _ _ _ rfl
  | false =>
  simp (maxSteps := 2000000) (disch := first | omega | assumption) only [↓mCode, ↓mOps, mAll, seval, vPtr, ite_ne, wrap_i64, boundN_int, e1_tys, e1_fns, fn3, Tryz.f3, ent6, cN0, cG0]
  refine (much5_ok (hn.ext G0).rows).call rfl e1_subs ?_
  rintro _ H0 n0 ⟨⟨b2, rfl, f2⟩, rfl, rfl⟩
  cases b2 with
  | true =>
    simp (maxSteps := 2000000) (disch := first | omega | assumption) only [↓mCode, ↓mOps, mAll, seval, vPtr, ite_ne, wrap_i64, boundN_int, e1_tys, e1_fns, fn3, Tryz.f3, ent6]
    exact K _ _ _ rfl
  | false =>
  simp (maxSteps := 2000000) (disch := first | omega | assumption) only [↓mCode, ↓mOps, mAll, seval, vPtr, ite_ne, wrap_i64, boundN_int, e1_tys, e1_fns, fn3, Tryz.f3, ent6, cN0, cG0]
  refine (much5_ok (hg.ext G0).rows).call rfl e1_subs ?_
  rintro _ H0 n0 ⟨⟨b3, rfl, f3⟩, rfl, rfl⟩
  cases b3 with
  | true =>
    simp (maxSteps := 2000000) (disch := first | omega | assumption) only [↓mCode, ↓mOps, mAll, seval, vPtr, ite_ne, wrap_i64, boundN_int, e1_tys, e1_fns, fn3, Tryz.f3, ent6]
    exact K _ _ _ rfl
  | false =>
  have fa := okRs_of (f1 rfl) ba
  have fn := okRs_of (f2 rfl) bn
  have fg := okRs_of (f3 rfl) bg
  have L0 : ∀ {kk : List V → Out}, cellsAt H0 n 0 2 kk = kk [V.bool y, va] := cells_all q0 rfl
  have L1 : ∀ {kk : List V → Out}, cellsAt H0 (n + 1) 0 4 kk = kk [V.int IntKind.i64 z, vn, vg, V.bool y2] := cells_all q1 rfl
  simp (maxSteps := 2000000) (disch := first | omega | assumption) only [↓mCode, ↓mOps, mAll, seval, vPtr, ite_ne, wrap_i64, boundN_int, e1_tys, e1_fns, fn3, Tryz.f3, ent6, L0, L1]
  refine (apply7_ok (y := y) (y2 := y2) (z := z) (ha.ext G0) (hn.ext G0) (hg.ext G0) fa fn fg).call rfl e1_subs ?_
  rintro v1 h1 n1 ⟨A1, A2, G1⟩
  have p0 := (G1.2 n (by omega)).trans q0
  have p1 := (G1.2 (n + 1) (by omega)).trans q1
  have g1n := G1.1
  have M0 : ∀ {kk : List V → Out}, cellsAt h1 n 0 2 kk = kk [V.bool y, va] := cells_all p0 rfl
  have M1 : ∀ {kk : List V → Out}, cellsAt h1 (n + 1) 0 4 kk = kk [V.int IntKind.i64 z, vn, vg, V.bool y2] := cells_all p1 rfl
  have e01 : (n = n1) = False := eq_false (by omega)
  have e11 : (n + 1 = n1) = False := eq_false (by omega)
  cases hgb : goesB lg la with
  | false =>
    obtain rfl := A1 hgb
    clear A1 A2
    simp (maxSteps := 2000000) (disch := first | omega | assumption) only [↓mCode, ↓mOps, mAll, seval, vPtr, ite_ne, wrap_i64, boundN_int, e1_tys, e1_fns, fn3, Tryz.f3, ent6, M0, M1, e01, e11]
    generalize hH1 : (h1.put n1 (some (O.cells (ofT [V.bool false, V.base (Value.slice none 0 0)]) 2 2))).put n1 (some (O.cells (((ofT [V.bool false, V.base (Value.slice none 0 0)]).put 0 (some (V.bool false))).put 1 (some (V.base (Value.slice none 0 0)))) 2 2)) = H1
    have W1 : Gro h1 n1 H1 (n1 + 1) := by rw [← hH1]; exact ((Gro.refl h1 n1).put _).set (Nat.le_refl _) _
    have t1 : ∀ {kk : List V → Out}, cellsAt H1 n1 0 2 kk = kk [V.bool false, V.base (Value.slice none 0 0)] := two_at (by rw [← hH1, T.get_put, if_pos rfl]) (by rw [T.get_put, if_neg (by omega), T.get_put, if_pos rfl]) (by rw [T.get_put, if_pos rfl])
    have t1g : ∃ t, H1.get n1 = some (O.cells t 2 2) ∧ t.get 0 = some (V.bool false) ∧ t.get 1 = some (V.base (Value.slice none 0 0)) := ⟨_, by rw [← hH1, T.get_put, if_pos rfl], by rw [T.get_put, if_neg (by omega), T.get_put, if_pos rfl], by rw [T.get_put, if_pos rfl]⟩
    clear hH1
    refine (apply8_ok (y := y) (y2 := y2) (z := z) (((ha.ext G0).ext G1).ext W1) (((hn.ext G0).ext G1).ext W1) (((hg.ext G0).ext G1).ext W1) fa fn fg).call rfl e1_subs ?_
    rintro v2 h2 n2 ⟨B1, B2, G2⟩
    have g2n := G2.1
    obtain ⟨t, tg, ta, tb⟩ := t1g
    have T1 : ∀ {kk : List V → Out}, cellsAt h2 n1 0 2 kk = kk [V.bool false, V.base (Value.slice none 0 0)] := two_at ((G2.2 n1 (by omega)).trans tg) ta tb
    have e12 : (n1 = n2) = False := eq_false (by omega)
    obtain rfl := B1 hgb
    clear B1 B2
    have R0 : ∀ {h : T O} {n : Nat}, RowsIn h n (.base (.slice none 0 0)) [] := ⟨fun id hid => (by cases hid), fun _ => undefV, .nil none, fun i hi => absurd hi (by simp)⟩
    simp (maxSteps := 2000000) (disch := first | omega | assumption) only [↓mCode, ↓mOps, mAll, seval, vPtr, ite_ne, wrap_i64, boundN_int, e1_tys, e1_fns, fn3, Tryz.f3, ent6, T1, e12]
    refine (same20_ok (ya := false) (yb := false) R0 R0 (by simp) (fun i hi => absurd hi (by simp)) (fun i hi => absurd hi (by simp))).call rfl e1_subs ?_
    rintro _ h3 n3 ⟨rfl, G3⟩
    have ed : decide (false = false ∧ ([] : List (List Tm)) = []) = true := decide_eq_true ⟨rfl, rfl⟩
    simp (maxSteps := 2000000) (disch := first | omega | assumption) only [↓mCode, ↓mOps, mAll, seval, vPtr, ite_ne, wrap_i64, boundN_int, e1_tys, e1_fns, fn3, Tryz.f3, ent6, ed]
    exact K _ _ _ rfl
  | true =>
    obtain ⟨u, out, rfl, R1, hp, hasc⟩ := A2 hgb
    clear A1 A2
    have ou : oneV u = true := R1.one
    have cu : cellsOf u = [u] := cellsOf_one ou
    simp (maxSteps := 2000000) (disch := first | omega | assumption) only [↓mCode, ↓mOps, mAll, seval, vPtr, ite_ne, wrap_i64, boundN_int, e1_tys, e1_fns, fn3, Tryz.f3, ent6, M0, M1, e01, e11, ou, cu]
    generalize hH1 : (h1.put n1 (some (O.cells (ofT [V.bool false, V.base (Value.slice none 0 0)]) 2 2))).put n1 (some (O.cells (((ofT [V.bool false, V.base (Value.slice none 0 0)]).put 0 (some (V.bool y2))).put 1 (some (u))) 2 2)) = H1
    have W1 : Gro h1 n1 H1 (n1 + 1) := by rw [← hH1]; exact ((Gro.refl h1 n1).put _).set (Nat.le_refl _) _
    have t1 : ∀ {kk : List V → Out}, cellsAt H1 n1 0 2 kk = kk [V.bool y2, u] := two_at (by rw [← hH1, T.get_put, if_pos rfl]) (by rw [T.get_put, if_neg (by omega), T.get_put, if_pos rfl]) (by rw [T.get_put, if_pos rfl])
    have t1g : ∃ t, H1.get n1 = some (O.cells t 2 2) ∧ t.get 0 = some (V.bool y2) ∧ t.get 1 = some (u) := ⟨_, by rw [← hH1, T.get_put, if_pos rfl], by rw [T.get_put, if_neg (by omega), T.get_put, if_pos rfl], by rw [T.get_put, if_pos rfl]⟩
    clear hH1
    refine (apply8_ok (y := y) (y2 := y2) (z := z) (((ha.ext G0).ext G1).ext W1) (((hn.ext G0).ext G1).ext W1) (((hg.ext G0).ext G1).ext W1) fa fn fg).call rfl e1_subs ?_
    rintro v2 h2 n2 ⟨B1, B2, G2⟩
    have g2n := G2.1
    obtain ⟨t, tg, ta, tb⟩ := t1g
    have T1 : ∀ {kk : List V → Out}, cellsAt h2 n1 0 2 kk = kk [V.bool y2, u] := two_at ((G2.2 n1 (by omega)).trans tg) ta tb
    have e12 : (n1 = n2) = False := eq_false (by omega)
    obtain ⟨w, rfl, R2⟩ := B2 hgb
    clear B1 B2
    have ow : oneV w = true := R2.one
    have cw : cellsOf w = [w] := cellsOf_one ow
    have hll : (rem lg la ++ ln).length ≤ 200 := by have := rem_le la lg; have := fa.1; have := fn.1; rw [List.length_append]; omega
    have hsm : Small (rem lg la ++ ln) := small_app (small_rem fa.small) fn.small
    have eo : out = sortR cmpR (rem lg la ++ ln) := sortR_eq (lexL_LC cmpT_LC) hp hasc
    simp (maxSteps := 2000000) (disch := first | omega | assumption) only [↓mCode, ↓mOps, mAll, seval, vPtr, ite_ne, wrap_i64, boundN_int, e1_tys, e1_fns, fn3, Tryz.f3, ent6, T1, e12, ow, cw]
    refine (same20_ok (ya := y2) (yb := y2) (((R1.ext W1).ext G2).ext (((Gro.refl h2 n2).put _).set (Nat.le_refl _) _)) (R2.ext (((Gro.refl h2 n2).put _).set (Nat.le_refl _) _)) (by rw [hp.length_eq]; omega) (asc_small hp hsm) (fold_small hsm)).call rfl e1_subs ?_
    rintro _ h3 n3 ⟨rfl, G3⟩
    have eo' : out = (rem lg la ++ ln).foldl (fun acc x => putR false x acc) [] := eo
    simp (maxSteps := 2000000) (disch := first | omega | assumption) only [↓mCode, ↓mOps, mAll, seval, vPtr, ite_ne, wrap_i64, boundN_int, e1_tys, e1_fns, fn3, Tryz.f3, ent6]
    exact ⟨fun _ => ⟨fun _ => K _ _ _ rfl, fun q => absurd eo' q⟩, fun q => absurd eo' q⟩
end Go.Mir
namespace Go.Mir
open Go Go.Proofs Go.RowKit Go.ChangeShapes Go.WideShapes Go.ChangeAt Go.Joins

theorem addrPlain {w : World} {x : Addr} {j : Nat} {v : Value} (h : w.cell? (x.add j) = some v) (hj : j = 0 := by rfl) : ∃ b off, x = ⟨b, off, none⟩ ∧ w.cell? ⟨b, off + j, none⟩ = some v := by
  subst hj
  obtain ⟨b, off, sp⟩ := x
  cases sp with
  | none => exact ⟨b, off, rfl, h⟩
  | some q =>
    exfalso
    have h : w.cell? ⟨b, off, some q⟩ = some v := h
    unfold World.cell? at h
    split at h
    · simp at h
    · cases h

theorem addr_add {b off i : Nat} : (⟨b, off, none⟩ : Addr).add i = ⟨b, off + i, none⟩ := by
  unfold Addr.add
  by_cases h : i = 0 <;> simp [h]

theorem absV_slice {w : World} {b off len cap : Nat} (hb : b < w.heap.size) (hl : len ≤ cap) (hc : 0 < cap) : absV w (.slice (some ⟨b, off, none⟩) len cap) = some (.slice b off len true cap len) := by
  obtain ⟨c, rfl⟩ : ∃ c, cap = c + 1 := ⟨cap - 1, by omega⟩
  cases len with
  | zero => show (if b < w.heap.size ∧ 0 ≤ c + 1 then _ else _) = _; rw [if_pos ⟨hb, hl⟩]
  | succ l => show (if b < w.heap.size ∧ l + 1 ≤ c + 1 then _ else _) = _; rw [if_pos ⟨hb, hl⟩]

/-- a string as the machine holds it -/
def strN (s : ByteArray) : List Nat := s.data.toList.map UInt8.toNat
abbrev TmB := Int × ByteArray × ByteArray
def tmN (y : TmB) : Tm := (y.1, strN y.2.1, strN y.2.2)
structure TmTy (P : Program) (t9 t49 t51 : Nat) : Prop where
  U51 : ∃ f0 f1 f2 : Field, P.underlying t51 = some (.struct #[f0, f1, f2]) ∧ (f0.type = t49 ∧ f0.offset = 0) ∧ (f1.type = t9 ∧ f1.offset = 1) ∧ (f2.type = t9 ∧ f2.offset = 2)
  U49 : P.underlying t49 = some (.int .i64)
  U9 : P.underlying t9 = some .string
  C9 : P.cellsOf t9 = 1
  C49 : P.cellsOf t49 = 1
  C51 : P.cellsOf t51 = 3

section
variable {H : Type} {enc : TypeId × Value → H} {P : Program} {W : World} {held : Bool} {t3 t4 t9 t22 t26 t31 t49 t51 : Nat} {f0 f1 f2 r0 r1 r2 r3 : Field}

theorem in64_wf {k : Int} {s q : ByteArray} (h : (Lit.int .i64 k).wf = true) : In64 (tmN (k, s, q)) := by
  have h : (decide (IntKind.i64.min ≤ k) && decide (k ≤ IntKind.i64.max)) = true := h
  have h1 := of_decide_eq_true (Bool.and_eq_true_iff.1 h).1
  have h2 := of_decide_eq_true (Bool.and_eq_true_iff.1 h).2
  exact ⟨h1, h2⟩
theorem open_term {fuel : Nat} {cs : List Value} {x : DataW H × List MemPlace} (U51 : P.underlying t51 = some (.struct #[f0, f1, f2])) (e0 : f0.type = t49 ∧ f0.offset = 0) (e1 : f1.type = t9 ∧ f1.offset = 1) (e2 : f2.type = t9 ∧ f2.offset = 2)
    (U49 : P.underlying t49 = some (.int .i64)) (U9 : P.underlying t9 = some .string) (C49 : P.cellsOf t49 = 1) (C9 : P.cellsOf t9 = 1) (hl : cs.length = 3)
    (h : DataW.trod enc P W 0 (fun _ => true) held fuel t51 cs = some x) : ∃ y : TmB, cs = [.int .i64 y.1, .string y.2.1, .string y.2.2] ∧ In64 (tmN y) := by
  obtain ⟨y0, y1, y2, n, _, _, h0, h1, h2⟩ := Go.Deep.trod_struct3 U51 h
  rw [e0.1, e0.2, C49] at h0
  rw [e1.1, e1.2, C9] at h1
  rw [e2.1, e2.2, C9] at h2
  obtain ⟨k, k0, _, kw⟩ := DataW.trod_int U49 h0
  obtain ⟨s, s0, _⟩ := DataW.trod_string U9 h1
  obtain ⟨q, q0, _⟩ := DataW.trod_string U9 h2
  match cs, hl with
  | [a, b, c], _ =>
    simp at k0 s0 q0
    exact ⟨(k, s, q), by rw [k0, s0, q0], in64_wf kw⟩

theorem open_row {fuel : Nat} {v : Value} {x : DataW H × List MemPlace} (T : TmTy P t9 t49 t51) (U31 : P.underlying t31 = some (.slice t51))
    (h : DataW.trod enc P W 0 (fun _ => true) held fuel t31 [v] = some x) : ∃ y : V × List Tm, absV W v = some y.1 ∧ RowIn (heap0 W) W.heap.size y.1 y.2 ∧ ∀ x ∈ y.2, In64 x := by
  obtain ⟨f0, f1, f2, U51, e0, e1, e2⟩ := T.U51
  rcases Go.Deep.open_slice U31 h with ⟨hcs, _⟩ | ⟨a, len, cap, m, n, D, Pl, hcs, _, hl, _, hmm, _, hx⟩
  · simp at hcs
    subst hcs
    exact ⟨(.base (.slice none 0 0), []), rfl, ⟨.nil none, fun i hi => (by cases hi)⟩, fun x hx => by cases hx⟩
  · simp at hcs
    subst hcs
    simp only [if_true] at hmm
    subst hmm
    by_cases c0 : m = 0
    · subst c0
      obtain rfl : len = 0 := by omega
      exact ⟨(.base (.slice (some a) 0 0), []), rfl, ⟨.nil (some a), fun i hi => (by cases hi)⟩, fun x hx => by cases hx⟩
    · have hcell : ∀ i, i < m → ∃ y : TmB, W.cell? (a.add (i * 3)) = some (.int .i64 y.1) ∧ W.cell? (a.add (i * 3 + 1)) = some (.string y.2.1) ∧ W.cell? (a.add (i * 3 + 2)) = some (.string y.2.2) ∧ In64 (tmN y) := fun i hi => by
        obtain ⟨cs', h1, h2⟩ := hx i hi
        rw [T.C51] at h1
        obtain ⟨_, hlen, hc⟩ := World.cells?_some h1
        obtain ⟨y, rfl, yr⟩ := open_term U51 e0 e1 e2 T.U49 T.U9 T.C49 T.C9 hlen h2
        refine ⟨y, ?_, ?_, ?_, yr⟩
        · have := hc 0 (by omega)
          rw [Go.Deep.add_add] at this; exact this
        · have := hc 1 (by omega)
          rw [Go.Deep.add_add] at this; exact this
        · have := hc 2 (by omega)
          rw [Go.Deep.add_add] at this; exact this
      haveI : Inhabited TmB := ⟨(0, ⟨#[]⟩, ⟨#[]⟩)⟩
      obtain ⟨y, hy⟩ := Go.Deep.choose_lt hcell
      obtain ⟨b, off, rfl, h00⟩ := addrPlain (hy 0 (by omega)).1
      obtain ⟨c, g1, g2, g3, g4⟩ := cell_given W h00
      simp only [addr_add] at hy
      have get : ∀ {j : Nat} {u : Value}, W.cell? ⟨b, off + j, none⟩ = some u → off + j < c.size ∧ (cellsT W c).get (off + j) = absV W u := fun hj => by
        obtain ⟨c', k1, k2, k3, _⟩ := cell_given W hj
        rw [g1] at k1
        injection k1 with k1
        injection k1 with k4 k5
        rw [k4, k5]; exact ⟨k2, k3⟩
      refine ⟨(.slice b off len true m len, (List.range len).map fun i => tmN (y i)), absV_slice g4 hl (by omega), ⟨?_, fun i hi => (by cases hi; exact g4)⟩, fun x hx => ?_⟩
      · have e : ((List.range len).map fun i => tmN (y i)).length = len := by simp
        unfold Row
        rw [e]
        refine .slice _ _ _ _ _ _ (Nat.le_refl _) ⟨_, cellsT W c, c.size, 1, g1, .inr rfl, ?_, fun j hj => ?_⟩
        · by_cases l0 : len = 0
          · subst l0; have := (get (j := 0) h00).1; omega
          · have := (get (hy (len - 1) (by omega)).2.2.1).1; omega
        · have hq : j / 3 < len := by omega
          obtain ⟨z0, z1, z2, _⟩ := hy (j / 3) (by omega)
          have hr : ((List.range len).map fun i => tmN (y i)).getD (j / 3) (0, [], []) = tmN (y (j / 3)) := by
            rw [List.getD_eq_getElem?_getD, List.getElem?_map, List.getElem?_range hq]; rfl
          unfold rowG
          rw [hr]
          rcases (by omega : j % 3 = 0 ∨ j % 3 = 1 ∨ j % 3 = 2) with r | r | r
          · rw [if_pos r]
            have := (get z0).2
            rw [show j / 3 * 3 = j by omega] at this
            exact this
          · rw [if_neg (by omega), if_pos r]
            have := (get z1).2
            rw [show j / 3 * 3 + 1 = j by omega] at this
            exact this
          · rw [if_neg (by omega), if_neg (by omega)]
            have := (get z2).2
            rw [show j / 3 * 3 + 2 = j by omega] at this
            exact this
      · obtain ⟨i, hi, rfl⟩ := List.mem_map.1 hx
        have hi : i < len := by simpa using hi
        exact (hy i (by omega)).2.2.2

theorem open_rows {fuel : Nat} {v : Value} {x : DataW H × List MemPlace} (T : TmTy P t9 t49 t51) (U22 : P.underlying t22 = some (.slice t31)) (U31 : P.underlying t31 = some (.slice t51)) (C31 : P.cellsOf t31 = 1)
    (hf : DataW.trod enc P W 0 (fun _ => true) held fuel t22 [v] = some x) : ∃ va l, absV W v = some va ∧ RowsIn (heap0 W) W.heap.size va l ∧ In64s l := by
  rcases Go.Deep.open_slice1 U22 C31 hf with ⟨hcs, _⟩ | ⟨a, len, cap, m, n, X, D, Pl, hcs, _, hl, _, hmm, _, hx⟩
  · simp at hcs
    subst hcs
    exact ⟨.base (.slice none 0 0), [], rfl, ⟨fun i hi => (by cases hi), fun _ => undefV, .nil none, fun i hi => absurd hi (by simp)⟩, fun r hr => by cases hr⟩
  · simp at hcs
    subst hcs
    simp only [if_true] at hmm
    subst hmm
    by_cases c0 : m = 0
    · subst c0
      obtain rfl : len = 0 := by omega
      exact ⟨.base (.slice (some a) 0 0), [], rfl, ⟨fun i hi => (by cases hi), fun _ => undefV, .nil (some a), fun i hi => absurd hi (by simp)⟩, fun r hr => by cases hr⟩
    · haveI : Inhabited (V × List Tm) := ⟨(undefV, [])⟩
      obtain ⟨y, hy⟩ := Go.Deep.choose_lt (α := V × List Tm) fun i (hi : i < m) => open_row T U31 (hx i hi).2
      obtain ⟨b, off, rfl, h00⟩ := addrPlain (hx 0 (by omega)).1
      obtain ⟨c, g1, g2, g3, g4⟩ := cell_given W h00
      have hcell : ∀ i, i < m → W.cell? ⟨b, off + i, none⟩ = some (X i) := fun i hi => by
        have := (hx i hi).1
        rwa [addr_add] at this
      have get : ∀ {j : Nat} {u : Value}, W.cell? ⟨b, off + j, none⟩ = some u → off + j < c.size ∧ (cellsT W c).get (off + j) = absV W u := fun hj => by
        obtain ⟨c', k1, k2, k3, _⟩ := cell_given W hj
        rw [g1] at k1
        injection k1 with k1
        injection k1 with k4 k5
        rw [k4, k5]; exact ⟨k2, k3⟩
      refine ⟨.slice b off len true m len, (List.range len).map fun i => (y i).2, absV_slice g4 hl (by omega), ⟨fun i hi => (by cases hi; exact g4), fun i => (y i).1, ?_, fun i hi => ?_⟩, fun r hr => ?_⟩
      · have e : ((List.range len).map fun i => (y i).2).length = len := by simp
        rw [e]
        refine .slice _ _ _ _ _ _ (Nat.le_refl _) ⟨_, cellsT W c, c.size, 1, g1, .inr rfl, ?_, fun j hj => ?_⟩
        · by_cases l0 : len = 0
          · subst l0; have := (get (j := 0) h00).1; omega
          · have := (get (hcell (len - 1) (by omega))).1; omega
        · rw [(get (hcell j (by omega))).2]
          exact (hy j (by omega)).1
      · have hi : i < len := by simpa using hi
        rw [List.getD_eq_getElem?_getD, List.getElem?_map, List.getElem?_range hi]
        exact (hy i (by omega)).2.1
      · obtain ⟨i, hi, rfl⟩ := List.mem_map.1 hr
        have hi : i < len := by simpa using hi
        exact (hy i (by omega)).2.2

/-- an answer that came in -/
theorem open_answer {v : Value} {d : DataW H} {p : List MemPlace} (T : TmTy P t9 t49 t51) (U26 : P.underlying t26 = some (.struct #[r0, r1])) (e0 : r0.type = t4 ∧ r0.offset = 0) (e1 : r1.type = t22 ∧ r1.offset = 1)
    (U4 : P.underlying t4 = some .bool) (U22 : P.underlying t22 = some (.slice t31)) (U31 : P.underlying t31 = some (.slice t51)) (C4 : P.cellsOf t4 = 1) (C22 : P.cellsOf t22 = 1) (C31 : P.cellsOf t31 = 1) (C26 : P.cellsOf t26 = 2)
    (h : DataW.Trod enc P W 0 (fun _ => true) held t26 v d p) :
    ∃ (yes : Bool) (vr : V) (rows : List (List Tm)), conc (beta0 W) (.agg [.bool yes, vr]) = some v ∧ RowsIn (heap0 W) W.heap.size vr rows ∧ In64s rows := by
  obtain ⟨fuel, hf⟩ := h
  obtain ⟨y0, y1, n, _, hl, h0, h1⟩ := trod_struct2 U26 hf
  rw [C26] at hl
  rw [e0.1, e0.2, C4] at h0
  rw [e1.1, e1.2, C22] at h1
  obtain ⟨c0, c1, rfl⟩ : ∃ c0 c1, v = .agg #[c0, c1] := by
    cases v with
    | agg cs =>
      obtain ⟨l⟩ := cs
      have hl' : l.length = 2 := by simpa [Value.cells] using hl
      match l, hl' with
      | [c0, c1], _ => exact ⟨c0, c1, rfl⟩
    | _ => simp [Value.cells] at hl
  obtain ⟨yes, ha, _⟩ := DataW.trod_bool U4 h0
  have ha' : c0 = .bool yes := by simpa [Value.cells] using ha
  obtain ⟨vr, rows, a2, R2, B2⟩ := open_rows (v := c1) T U22 U31 C31 h1
  refine ⟨yes, vr, rows, ?_, R2, B2⟩
  rw [ha']
  simp only [conc, concL, absV_conc W a2, Option.bind_some, Option.map_some]
/-- news that came in -/
theorem open_news {v : Value} {d : DataW H} {p : List MemPlace} (T : TmTy P t9 t49 t51) (U26 : P.underlying t26 = some (.struct #[r0, r1, r2, r3])) (e0 : r0.type = t3 ∧ r0.offset = 0) (e1 : r1.type = t22 ∧ r1.offset = 1) (e2 : r2.type = t22 ∧ r2.offset = 2) (e3 : r3.type = t4 ∧ r3.offset = 3)
    (U3 : P.underlying t3 = some (.int .i64)) (U4 : P.underlying t4 = some .bool) (U22 : P.underlying t22 = some (.slice t31)) (U31 : P.underlying t31 = some (.slice t51)) (C3 : P.cellsOf t3 = 1) (C4 : P.cellsOf t4 = 1) (C22 : P.cellsOf t22 = 1) (C31 : P.cellsOf t31 = 1) (C26 : P.cellsOf t26 = 4)
    (h : DataW.Trod enc P W 0 (fun _ => true) held t26 v d p) :
    ∃ (z : Int) (yes : Bool) (vn vg : V) (ln lg : List (List Tm)), conc (beta0 W) (.agg [.int .i64 z, vn, vg, .bool yes]) = some v ∧ RowsIn (heap0 W) W.heap.size vn ln ∧ RowsIn (heap0 W) W.heap.size vg lg ∧ In64s ln ∧ In64s lg := by
  obtain ⟨fuel, hf⟩ := h
  obtain ⟨y0, y1, y2, y3, n, _, hl, h0, h1, h2, h3⟩ := trod_struct4 U26 hf
  rw [C26] at hl
  rw [e0.1, e0.2, C3] at h0
  rw [e1.1, e1.2, C22] at h1
  rw [e2.1, e2.2, C22] at h2
  rw [e3.1, e3.2, C4] at h3
  obtain ⟨c0, c1, c2, c3, rfl⟩ : ∃ c0 c1 c2 c3, v = .agg #[c0, c1, c2, c3] := by
    cases v with
    | agg cs =>
      obtain ⟨c0, c1, c2, c3, rfl⟩ := array4 (cs := cs) (by simpa [Value.cells] using hl)
      exact ⟨c0, c1, c2, c3, rfl⟩
    | _ => simp [Value.cells] at hl
  obtain ⟨z, ha, _⟩ := DataW.trod_int U3 h0
  obtain ⟨yes, hd, _⟩ := DataW.trod_bool U4 h3
  have ha' : c0 = .int .i64 z := by simpa [Value.cells] using ha
  have hd' : c3 = .bool yes := by simpa [Value.cells] using hd
  obtain ⟨vn, ln, a2, R2, B2⟩ := open_rows (v := c1) T U22 U31 C31 h1
  obtain ⟨vg, lg, a3, R3, B3⟩ := open_rows (v := c2) T U22 U31 C31 h2
  refine ⟨z, yes, vn, vg, ln, lg, ?_, R2, R3, B2, B3⟩
  rw [ha', hd']
  simp only [conc, concL, absV_conc W a2, absV_conc W a3, Option.bind_some, Option.map_some]
end
end Go.Mir
namespace Go.Mir
open Go Go.Proofs Go.RowKit Go.Srt

theorem hook2R : HookR Tryz.prog hook2 := fun f args m v hv => by
  unfold hook2 at hv
  cases q : Nat.beq f 40 with
  | true =>
    rw [q] at hv
    obtain rfl := Nat.eq_of_beq_eq_true q
    exact ⟨fnr40, fun W0 β n w vs H hvs => keyCall hv H hvs⟩
  | false =>
    rw [q] at hv
    exact tabR f args m v hv

theorem envIR : EnvR Tryz.prog envI := ⟨tysR, fnsR, extR, hook2R, mixedR, fun _ _ _ _ _ e => (bad_ne e).elim, fun _ _ e => forkK_ok e⟩
theorem subZ : preC (combZ zc) (execF envI 1000000) = .ok zc :=
  (preC_fork _ _).trans (combZ_of (fun o ho => by
    simp only [List.mem_cons, List.mem_nil_iff, or_false] at ho
    rcases ho with h | h | h | h | h
    · rw [h]; exact chkR_ok way0
    · rw [h]; exact chkR_ok way1
    · rw [h]; exact chkR_ok way2
    · rw [h]; exact chkR_ok way3
    · rw [h]; exact chkR_ok way4))
theorem envTR : EnvR Tryz.prog envT :=
  ⟨tysR, fnsR, extR, hook2R, mixedR, subTwo_ok (E := envT) (EI := envI) envIR rfl rfl (sub_ok envIR (fun _ _ _ _ => execF_ok envIR 1000000) subZ), fun _ _ e => (bad_ne e).elim⟩
theorem envOR : EnvR Tryz.prog envO := by
  obtain ⟨y, hy, hz⟩ := chkR_ok runT
  exact ⟨tysR, fnsR, extR, hook2R, mixedR, subTwo_ok (E := envO) (EI := envI) envIR rfl rfl (subRunV_ok (E := envT) (fun _ _ _ _ => execF_ok envTR 1000000) hy hz), fun _ _ e => (bad_ne e).elim⟩
theorem known6 : KnownCall Tryz.prog 6 [] (.bool true) := known_val envOR runO (vs := []) rfl rfl

theorem asTm_some {v : V} {x : Tm} (h : asTm v = some x) : v = tv x := by
  unfold asTm at h
  split at h
  · cases h; rfl
  · cases h
theorem terms_plain {β : Beta} {x y : Tm} {vs : List Value} (h : concL β [tv x, tv y] = some vs) : ∃ us, concL noB [tv x, tv y] = some us :=
  ⟨vs, by simpa only [tv, conc, concL] using h⟩
theorem bind2 {a b : V} {v : V} (h : ((asTm a).bind fun x => (asTm b).map fun y => (V.int .i64 (cmpT x y))) = some v) : ∃ x y, a = tv x ∧ b = tv y ∧ v = .int .i64 (cmpT x y) := by
  obtain ⟨x, hx, h⟩ := Option.bind_eq_some_iff.1 h
  obtain ⟨y, hy, rfl⟩ := Option.map_eq_some_iff.1 h
  exact ⟨x, y, asTm_some hx, asTm_some hy, rfl⟩
theorem hook_cases {f : Nat} {args : List V} {m : T O} {v : V} (h : hook1 f args m = some v) :
    (∃ x y, f = 67 ∧ args = [tv x, tv y] ∧ v = .int .i64 (cmpT x y)) ∨ (∃ x y, f = 68 ∧ args = [tv x, tv y] ∧ v = .int .i64 (cmpT x y)) ∨ (f = 6 ∧ args = [] ∧ v = .bool true) ∨ (f = 40 ∧ keyHook args m = some v) := by
  unfold hook1 at h
  split at h
  · split at h
    · obtain ⟨x, y, rfl, rfl, rfl⟩ := bind2 h
      exact .inl ⟨x, y, rfl, rfl, rfl⟩
    · cases h
  · split at h
    · obtain ⟨x, y, rfl, rfl, rfl⟩ := bind2 h
      exact .inr (.inl ⟨x, y, rfl, rfl, rfl⟩)
    · cases h
  · split at h
    · cases h; exact .inr (.inr (.inl ⟨rfl, rfl, rfl⟩))
    · cases h
  · exact .inr (.inr (.inr ⟨rfl, h⟩))
  · cases h
theorem fnr67 : ∃ fn, Tryz.prog.funcs[67]? = some fn ∧ (fn.name == "runtime.NumGoroutine") = false ∧ fn.body.isNone = false := ⟨Tryz.f67, Tryz.func67, by kernel_rfl, by kernel_rfl⟩
theorem fnr68 : ∃ fn, Tryz.prog.funcs[68]? = some fn ∧ (fn.name == "runtime.NumGoroutine") = false ∧ fn.body.isNone = false := ⟨Tryz.f68, Tryz.func68, by kernel_rfl, by kernel_rfl⟩

theorem hook1R : HookR Tryz.prog hook1 := hook_of (fun f args m v h => by
    rcases hook_cases h with ⟨x, y, rfl, rfl, rfl⟩ | ⟨x, y, rfl, rfl, rfl⟩ | ⟨rfl, rfl, rfl⟩ | ⟨rfl, h⟩
    · exact ⟨fnr67, .inl ⟨fun β vs => terms_plain, fun ⟨vs, hvs⟩ => W_known env0R (d := 16) (n := 0) (v := .int .i64 (cmpT x y)) ((cmp_ok x y (T.blank 16) 0).run) hvs rfl fnr67⟩⟩
    · exact ⟨fnr68, .inl ⟨fun β vs => terms_plain, fun ⟨vs, hvs⟩ => W_known env0R (d := 16) (n := 0) (v := .int .i64 (cmpT x y)) ((cmp02_ok x y (T.blank 16) 0).run) hvs rfl fnr68⟩⟩
    · exact ⟨known6.1, .inl ⟨fun β vs hvs => ⟨[], rfl⟩, fun _ => known6⟩⟩
    · exact ⟨fnr40, .inr fun W0 β n w vs H hvs => keyCall h H hvs⟩)

theorem env1R : EnvR Tryz.prog env1 := ⟨tysR, fnsR, extR, hook1R, mixedR, fun _ _ _ _ _ e => (bad_ne e).elim, fun _ _ e => (bad_ne e).elim⟩

theorem calls3 {W : World} (L : laidP W) {x y : Value} {va vn vg : V} {la ln lg : List (List Tm)} {b b2 : Bool} {z : Int} (hx : conc (beta0 W) (.agg [.bool b, va]) = some x) (hy : conc (beta0 W) (.agg [.int .i64 z, vn, vg, .bool b2]) = some y)
    (ha : RowsIn (heap0 W) W.heap.size va la) (hn : RowsIn (heap0 W) W.heap.size vn ln) (hg : RowsIn (heap0 W) W.heap.size vg lg) (ba : In64s la) (bn : In64s ln) (bg : In64s lg) :
    Calls Tryz.prog 3 #[x, y] W fun e W' => e = .returned (.bool true) ∧ Below W.heap.size W W' := by
  have hv : concL (beta0 W) [.agg [.bool b, va], .agg [.int .i64 z, vn, vg, .bool b2]] = some [x, y] := by
    simp only [concL, hx, hy, Option.bind_some, Option.map_some]
  refine (W_calls env1R (law3_ok (y := b) (y2 := b2) (z := z) ha hn hg ba bn bg).run hv (HR.given W L)).mono fun e w' ⟨r, hr, β', val, h1, h2, h3⟩ => ?_
  replace hr : r.v = .bool true := hr
  rw [hr] at h1
  cases h1
  exact ⟨h2, h3.below⟩
end Go.Mir
