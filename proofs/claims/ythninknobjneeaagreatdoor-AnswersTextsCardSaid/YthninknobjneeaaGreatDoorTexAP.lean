/- How a question and an answer that came in are opened. No statement of the program stands here. -/
import Derived.Test.YthninknobjneeaaGreatDoorTexAN
import Derived.Test.YthninknobjneeaaGreatDoorTexAL
import Derived.Deep.Strs
import Derived.ProofKit
import Derived.OpenShut
import Derived.Lib.SmallJoins
set_option linter.unusedSimpArgs false
set_option linter.unusedVariables false
namespace Go.Mir
open Go Go.Proofs
set_option maxRecDepth 4000
set_option maxHeartbeats 16000000

/- texts of bytes -/
def ByT (x : Tm) : Prop := (∀ c ∈ x.2.1, c < 256) ∧ ∀ c ∈ x.2.2, c < 256
def ByL (x : LitT) : Prop := ByT x.2.1.1.2 ∧ ByT x.2.1.2.1.2 ∧ ByT x.2.1.2.2.2 ∧ ByT x.2.2.1.2 ∧ ByT x.2.2.2.2
theorem GdS_of {s : SlotT} (h : ByT s.2) (hz : szS s ≤ 30000) : GdS s := by
  unfold szS at hz
  exact ⟨by omega, h.1, by omega, h.2, by omega⟩
theorem GdL_of {x : LitT} (h : ByL x) (hz : szL x ≤ 30000) : GdL x := by
  unfold szL szP at hz
  dsimp only at hz
  exact ⟨⟨GdS_of h.1 (by omega), GdS_of h.2.1 (by omega), GdS_of h.2.2.1 (by omega)⟩, GdS_of h.2.2.2.1 (by omega), GdS_of h.2.2.2.2 (by omega)⟩
def ByRows (rows : List (List Tm)) : Prop := ∀ r ∈ rows, ∀ x ∈ r, ByT x
theorem GdRows_of {rows : List (List Tm)} (h : ByRows rows) (hf : Few rows) (hs : ∀ i, i < rows.length → ∀ j, j < (rows.getD i []).length → Sho ((rows.getD i []).getD j (0, [], []))) : GdRows rows := fun i hi => by
  refine ⟨fun x hx => ?_, hf.2 i hi⟩
  have hm : rows.getD i [] ∈ rows := by rw [List.getD_eq_getElem?_getD, List.getElem?_eq_getElem hi]; exact List.getElem_mem hi
  have hb := h _ hm x hx
  obtain ⟨j, hj, rfl⟩ := List.getElem_of_mem hx
  have hz := hs i hi j hj
  rw [List.getD_eq_getElem?_getD (l := rows.getD i []), List.getElem?_eq_getElem hj] at hz
  have hz' : Sho (rows.getD i [])[j] := hz
  exact ⟨hb.1, Nat.le_trans hz'.1 (by omega), hb.2, Nat.le_trans hz'.2 (by omega)⟩

theorem num_ok {z : Int} {h : T O} {n : Nat} : Fn env0 9 [.int .i64 z] h n (fun v h' n' => v = .int .i64 z ∧ h' = h ∧ n' = n) := by
  refine Fn.mk fn9 rfl fz9 (by simp) fun Q cs K => ?_
  simp (maxSteps := 2000000) (disch := first | omega | assumption) only [↓mCode, ↓mOps, mAll, seval, vPtr, ite_ne, wrap_i64, boundN_int, fn9, Tryz.f9]
  exact K _ _ _ ⟨rfl, rfl, rfl⟩
theorem ent6 {fr : Fr} {cs : List Fr} {h : T O} {n : Nat} {go : Go_} {fin : Kv} : enterK env0 6 [] fr cs h n go fin = fin (.bool true) h n := enterK_hook rfl
theorem load_2 {a b : V} {k : List V → Out} : loadN (ofT [a, b]) 0 2 k = k [a, b] := (loadN_ofT (by simp)).trans rfl

theorem law4_ok {h : T O} {n : Nat} {vv vb vr : V} {ask dist yes : Bool} {vars : List (List Nat)} {body : List LitT} {rows : List (List Tm)} (Rv : StrIn h n vv vars) (Rb : LitIn h n vb body) (Rr : RowsIn h n vr rows)
    (bb : ∀ i, i < body.length → ByL (body.getD i zLit)) (br : ByRows rows) :
    Fn env0 3 [.agg [.bool ask, .bool dist, vv, vb], .agg [.bool yes, vr]] h n (fun v _ _ => v = .bool true) := by
  refine Fn.mk fn3 rfl fz3 (by simp) fun Q cs K => ?_
  have lenR : ∀ {hh : T O} {e : Nat} {k : V → Out}, lenIn hh (.slice e) vr k = k (.int .i64 (rows.length : Int)) := fun {hh e k} => by
    obtain ⟨_, g, S, _⟩ := Rr
    exact S.lenA
  generalize hhB : (h.put n (some (.cells (ofT [V.bool ask, V.bool dist, vv, vb]) 4 4))).put (n + 1) (some (.cells (ofT [V.bool yes, vr]) 2 2)) = hB
  have GB : Gro h n hB (n + 1 + 1) := by rw [← hhB]; exact ((Gro.refl h n).put _).put _
  have gq : hB.get n = some (.cells (ofT [V.bool ask, V.bool dist, vv, vb]) 4 4) := by rw [← hhB, T.get_put, if_neg (by omega), T.get_put, if_pos rfl]
  have ga : hB.get (n + 1) = some (.cells (ofT [V.bool yes, vr]) 2 2) := by rw [← hhB, T.get_put, if_pos rfl]
  have q4 : ∀ (hh : T O) (nn : Nat), Gro hB (n + 1 + 1) hh nn → ∀ {kk : List V → Out}, cellsAt hh n 0 4 kk = kk [V.bool ask, V.bool dist, vv, vb] := fun hh nn G {kk} => by
    rw [cellsAt_eq, G.2 n (by omega), gq, om_some, rCells_cells, need_ble (by omega)]; exact load_4
  have a2 : ∀ (hh : T O) (nn : Nat), Gro hB (n + 1 + 1) hh nn → ∀ {kk : List V → Out}, cellsAt hh (n + 1) 0 2 kk = kk [V.bool yes, vr] := fun hh nn G {kk} => by
    rw [cellsAt_eq, G.2 (n + 1) (by omega), ga, om_some, rCells_cells, need_ble (by omega)]; exact load_2
  have y1 : ∀ (hh : T O) (nn : Nat), Gro hB (n + 1 + 1) hh nn → ∀ {kk : V → Out}, cellAt hh (n + 1) 1 kk = kk vr := fun hh nn G {kk} => cell_of ((G.2 (n + 1) (by omega)).trans ga) (by omega) rfl
  have q40 := @q4 hB (n + 1 + 1) (Gro.refl _ _)
  simp (maxSteps := 2000000) (disch := first | omega | assumption) only [↓mCode, ↓mOps, mAll, seval, vPtr, ite_ne, wrap_i64, boundN_int, fn3, Tryz.f3, hhB, ↓q40]
  refine (much16_ok (Rv.ext GB) (Rb.ext GB)).call e0_hook e0_subs ?_
  rintro _ h1 n1 ⟨⟨b1, rfl, hb1⟩, G1⟩
  cases b1 with
  | true =>
    simp (maxSteps := 2000000) (disch := first | omega | assumption) only [↓mCode, ↓mOps, mAll, seval, vPtr, ite_ne, wrap_i64, boundN_int, fn3, Tryz.f3, ent6]
    exact K _ _ _ rfl
  | false =>
  have y11 := @y1 h1 n1 G1
  simp (maxSteps := 2000000) (disch := first | omega | assumption) only [↓mCode, ↓mOps, mAll, seval, vPtr, ite_ne, wrap_i64, boundN_int, fn3, Tryz.f3, y11]
  refine (much5_ok (Rr.ext (GB.trans G1))).call e0_hook e0_subs ?_
  rintro _ h1 n1 ⟨⟨b2, rfl, hb2⟩, rfl, rfl⟩
  cases b2 with
  | true =>
    simp (maxSteps := 2000000) (disch := first | omega | assumption) only [↓mCode, ↓mOps, mAll, seval, vPtr, ite_ne, wrap_i64, boundN_int, fn3, Tryz.f3, ent6]
    exact K _ _ _ rfl
  | false =>
  obtain ⟨hf, hs⟩ := hb2 rfl
  have gb : ∀ i, i < body.length → GdL (body.getD i zLit) := fun i hi => GdL_of (bb i hi) (hb1 rfl i hi)
  have gr : GdRows rows := GdRows_of br hf hs
  have hr : rows.length ≤ 100 := hf.1
  have q41 := @q4 h1 n1 G1
  have a21 := @a2 h1 n1 G1
  have G01 := GB.trans G1
  simp (maxSteps := 2000000) (disch := first | omega | assumption) only [↓mCode, ↓mOps, mAll, seval, vPtr, ite_ne, wrap_i64, boundN_int, fn3, Tryz.f3, ↓q41, ↓a21]
  refine (lines17_ok (Rv.ext G01) (Rb.ext G01) (Rr.ext G01) gb gr hr).call e0_hook e0_subs ?_
  rintro _ h2 n2 ⟨⟨lv, rfl, Sl1⟩, G2⟩
  have q42 := @q4 h2 n2 (G1.trans G2)
  have a22 := @a2 h2 n2 (G1.trans G2)
  have G02 := G01.trans G2
  simp (maxSteps := 2000000) (disch := first | omega | assumption) only [↓mCode, ↓mOps, mAll, seval, vPtr, ite_ne, wrap_i64, boundN_int, fn3, Tryz.f3, ↓q42, ↓a22]
  refine (lines18_ok (Rv.ext G02) (Rb.ext G02) (Rr.ext G02) gb gr hr).call e0_hook e0_subs ?_
  rintro _ h3 n3 ⟨⟨wv, rfl, Sw⟩, G3⟩
  have Sl3 := Sl1.ext G3
  have G03 := G02.trans G3
  have GB3 := (G1.trans G2).trans G3
  have Ll : (linesE (mayQ ask dist vars body) ask yes rows).1.length ≤ 1000000 := by
    unfold linesE
    repeat' split
    all_goals
      try simp only [List.length_cons, List.length_nil, List.length_map]
      omega
  generalize linesE (mayQ ask dist vars body) ask yes rows = LE at *
  obtain ⟨L, e⟩ := LE
  replace Ll : L.length ≤ 1000000 := Ll
  have ne1 : (e ≠ e) = False := eq_false fun q => q rfl
  have ne2 : ((L.length : Int) ≠ (L.length : Int)) = False := eq_false fun q => q rfl
  have lenL : ∀ {hh : T O} {e : Nat} {k : V → Out}, lenIn hh (.slice e) lv k = k (.int .i64 (L.length : Int)) := Sl3.1.lenA
  have lenW : ∀ {hh : T O} {e : Nat} {k : V → Out}, lenIn hh (.slice e) wv k = k (.int .i64 (L.length : Int)) := Sw.1.lenA
  simp (maxSteps := 2000000) (disch := first | omega | assumption) only [↓mCode, ↓mOps, mAll, seval, vPtr, ite_ne, wrap_i64, boundN_int, fn3, Tryz.f3]
  refine num_ok.call e0_hook e0_subs ?_
  rintro _ h3 n3 ⟨rfl, rfl, rfl⟩
  simp (maxSteps := 2000000) (disch := first | omega | assumption) only [↓mCode, ↓mOps, mAll, seval, vPtr, ite_ne, wrap_i64, boundN_int, fn3, Tryz.f3, ne1, ne2, decide_false, lenL, lenW]
  refine W_loopE (fun q regs h4 n4 => ∃ (i : Nat), q = L.length - i ∧ i ≤ L.length ∧ regs.get 3 = some (.ptr (n + 1) 0) ∧ regs.get 5 = some lv ∧ regs.get 7 = some wv ∧ regs.get 9 = some (.int .i64 (i : Int)) ∧ h4 = h3 ∧ n4 = n3)
    (fun regs h4 n4 => regs.get 3 = some (.ptr (n + 1) 0) ∧ h4 = h3 ∧ n4 = n3)
    _ ⟨0, rfl, by omega, ?_, ?_, ?_, ?_, rfl, rfl⟩ ?_ ?_
  iterate 4
    · simp only [mBase, Nat.reduceEqDiff, Nat.reduceSub, reduceIte] <;> rfl
  · rintro tt hexit q regs h4 n4 ⟨i, rfl, hi, r3, r5, r7, r9, rfl, rfl⟩ IH
    by_cases c1 : i < L.length
    · have c1' : ((i : Int) < (L.length : Int)) = True := eq_true (by omega)
      obtain ⟨id, off, ex, k, lo, hlv, hlo, hc⟩ := Sl3.1.get1 c1
      obtain ⟨id2, off2, ex2, k2, lo2, hwv, hlo2, hc2⟩ := Sw.1.get1 c1
      have hlo' : L.length ≤ lo := hlo
      have hlo2' : L.length ≤ lo2 := hlo2
      have hc' : ∀ {kk : V → Out}, cellAt h4 id (off + i * 1) kk = kk (.str (L.getD i [])) := hc
      have hc2' : ∀ {kk : V → Out}, cellAt h4 id2 (off2 + i * 1) kk = kk (.str (L.getD i [])) := hc2
      have ne3 : (L.getD i [] ≠ L.getD i []) = False := eq_false fun q => q rfl
      simp (maxSteps := 2000000) (disch := first | omega | assumption) only [↓mCode, ↓mOps, mAll, seval, vPtr, ite_ne, wrap_i64, boundN_int, fn3, Tryz.f3, r3, r5, r7, r9, c1', lenL, hlv]
      refine W_draw sr3_10 ss3_10 ?_ ?_
      · exact sk3_10
      simp (maxSteps := 2000000) (disch := first | omega | assumption) only [↓mCode, ↓mOps, mAll, seval, vPtr, ite_ne, wrap_i64, boundN_int, fn3, Tryz.f3, r3, r5, r7, r9, hlv, hwv, ↓hc', ↓hc2', ne3, decide_false]
      refine IH (L.length - (i + 1)) _ _ _ (by omega) ⟨i + 1, rfl, by omega, ?_, ?_, ?_, ?_, rfl, rfl⟩
      iterate 4
        · simp only [mBase, Nat.reduceEqDiff, Nat.reduceSub, reduceIte, r3, r5, hlv, r7, hwv, r9] <;> rfl
    · have c1' : ((i : Int) < (L.length : Int)) = False := eq_false (by omega)
      simp (maxSteps := 2000000) (disch := first | omega | assumption) only [↓mCode, ↓mOps, mAll, seval, vPtr, ite_ne, wrap_i64, boundN_int, fn3, Tryz.f3, r3, r5, r7, r9, c1', lenL]
      exact hexit _ _ _ ⟨by simp only [mBase, Nat.reduceEqDiff, Nat.reduceSub, reduceIte, r3], rfl, rfl⟩
  · rintro regs h4 n4 ⟨r3, rfl, rfl⟩
    simp (maxSteps := 2000000) (disch := first | omega | assumption) only [↓mCode, ↓mOps, mAll, seval, vPtr, ite_ne, wrap_i64, boundN_int, fn3, Tryz.f3, r3]
    refine W_loopE (fun q regs h5 n5 => ∃ (i : Nat), q = rows.length - i ∧ i ≤ rows.length ∧ regs.get 3 = some (.ptr (n + 1) 0) ∧ regs.get 10 = some (.int .i64 (i : Int)) ∧ Gro hB (n + 1 + 1) h5 n5)
      (fun _ _ _ => True)
      _ ⟨0, rfl, by omega, ?_, ?_, GB3⟩ ?_ ?_
    iterate 2
      · simp only [mBase, Nat.reduceEqDiff, Nat.reduceSub, reduceIte, r3] <;> rfl
    · rintro tt hexit q regs h5 n5 ⟨i, rfl, hi, r3, r10, G5⟩ IH
      have y15 := @y1 h5 n5 G5
      by_cases c1 : i < rows.length
      · have c1' : ((i : Int) < (rows.length : Int)) = True := eq_true (by omega)
        have gri := gr i c1
        have R5 := Rr.ext (GB.trans G5)
        obtain ⟨id, off, ex, k, lo, r, hvr, hlo, hid, hc, Rw⟩ := RowIn.at2 R5 c1
        have lenR' := @lenR
        have hc' : ∀ (hh : T O) (nn : Nat), Gro h5 n5 hh nn → ∀ {kk : V → Out}, cellAt hh id (off + i * 1) kk = kk r := fun hh nn G {kk} => by rw [cellAt_eq, G.2 id hid, ← cellAt_eq]; exact hc
        rw [hvr] at lenR'
        have y15' := @y15
        rw [hvr] at y15'
        generalize rows.getD i [] = row at *
        simp (maxSteps := 2000000) (disch := first | omega | assumption) only [↓mCode, ↓mOps, mAll, seval, vPtr, ite_ne, wrap_i64, boundN_int, fn3, Tryz.f3, r3, r10, c1', y15', lenR', ↓hc]
        refine (rowText_ok Rw gri.1 gri.2).call e0_hook e0_subs ?_
        rintro _ h6 n6 ⟨rfl, G6⟩
        have y16 := @y1 h6 n6 (G5.trans G6)
        have hc6 := @hc' h6 n6 G6
        rw [hvr] at y16
        have rv : ∃ (s : List Nat) (z : Int), rowV row = .tuple [.str s, .int .i64 z] := by
          unfold rowV
          split
          · exact ⟨_, _, rfl⟩
          · exact ⟨_, _, rfl⟩
        obtain ⟨s, z, rv⟩ := rv
        rw [rv]
        have ns : (s ≠ s) = False := eq_false fun q => q rfl
        have nz : (z ≠ z) = False := eq_false fun q => q rfl
        simp (maxSteps := 2000000) (disch := first | omega | assumption) only [↓mCode, ↓mOps, mAll, seval, vPtr, ite_ne, wrap_i64, boundN_int, fn3, Tryz.f3, r3, r10, y16, lenR', ↓hc6]
        refine (rowText20_ok (Rw.ext G6) gri.1 gri.2).call e0_hook e0_subs ?_
        rintro _ h7 n7 ⟨rfl, G7⟩
        rw [rv]
        simp (maxSteps := 2000000) (disch := first | omega | assumption) only [↓mCode, ↓mOps, mAll, seval, vPtr, ite_ne, wrap_i64, boundN_int, fn3, Tryz.f3, r3, r10, ns, decide_false]
        refine num_ok.call e0_hook e0_subs ?_
        rintro _ h7 n7 ⟨rfl, rfl, rfl⟩
        simp (maxSteps := 2000000) (disch := first | omega | assumption) only [↓mCode, ↓mOps, mAll, seval, vPtr, ite_ne, wrap_i64, boundN_int, fn3, Tryz.f3, r3, r10, nz, decide_false]
        refine IH (rows.length - (i + 1)) _ _ _ (by omega) ⟨i + 1, rfl, by omega, ?_, ?_, (G5.trans G6).trans G7⟩
        iterate 2
          · simp only [mBase, Nat.reduceEqDiff, Nat.reduceSub, reduceIte, r3, r10] <;> rfl
      · have c1' : ((i : Int) < (rows.length : Int)) = False := eq_false (by omega)
        simp (maxSteps := 2000000) (disch := first | omega | assumption) only [↓mCode, ↓mOps, mAll, seval, vPtr, ite_ne, wrap_i64, boundN_int, fn3, Tryz.f3, r3, r10, c1', y15, lenR]
        exact hexit _ _ _ trivial
    · rintro regs h5 n5 _
      simp (maxSteps := 2000000) (disch := first | omega | assumption) only [↓mCode, ↓mOps, mAll, seval, vPtr, ite_ne, wrap_i64, boundN_int, fn3, Tryz.f3, ent6]
      exact K _ _ _ rfl
end Go.Mir
namespace Go.Mir
open Go Go.Proofs Go.RowKit Go.ChangeShapes Go.WideShapes Go.ChangeAt Go.Joins

theorem addrPlain {w : World} {x : Addr} {j : Nat} {v : Value} (h : w.cell? (x.add j) = some v) (hj : j = 0 := by rfl) : ∃ b off, x = ⟨b, off, none⟩ ∧ w.cell? ⟨b, off + j, none⟩ = some v := by
  subst hj
  obtain ⟨b, off, sp⟩ := x
  cases sp with
  | none => exact ⟨b, off, rfl, h⟩
  | some q =>
    exfalso
    have h : w.cell? ⟨b, off, some q⟩ = some v := h
    unfold World.cell? at h
    split at h
    · simp at h
    · cases h

theorem addr_add {b off i : Nat} : (⟨b, off, none⟩ : Addr).add i = ⟨b, off + i, none⟩ := by
  unfold Addr.add
  by_cases h : i = 0 <;> simp [h]

theorem absV_slice {w : World} {b off len cap : Nat} (hb : b < w.heap.size) (hl : len ≤ cap) (hc : 0 < cap) : absV w (.slice (some ⟨b, off, none⟩) len cap) = some (.slice b off len true cap len) := by
  obtain ⟨c, rfl⟩ : ∃ c, cap = c + 1 := ⟨cap - 1, by omega⟩
  cases len with
  | zero => show (if b < w.heap.size ∧ 0 ≤ c + 1 then _ else _) = _; rw [if_pos ⟨hb, hl⟩]
  | succ l => show (if b < w.heap.size ∧ l + 1 ≤ c + 1 then _ else _) = _; rw [if_pos ⟨hb, hl⟩]

/-- a string as the machine holds it -/
def strN (s : ByteArray) : List Nat := s.data.toList.map UInt8.toNat
theorem strN_lt {s : ByteArray} : ∀ c ∈ strN s, c < 256 := fun c hc => by
  obtain ⟨b, _, rfl⟩ := List.mem_map.1 hc
  exact UInt8.toNat_lt b

/- the texts of memory, by value -/
abbrev TmB := Int × ByteArray × ByteArray
abbrev SlotB := ByteArray × TmB
abbrev LitB := Int × (SlotB × SlotB × SlotB) × SlotB × SlotB
def tmN (y : TmB) : Tm := (y.1, strN y.2.1, strN y.2.2)
def slotN (s : SlotB) : SlotT := (strN s.1, tmN s.2)
def litN (x : LitB) : LitT := (x.1, (slotN x.2.1.1, slotN x.2.1.2.1, slotN x.2.1.2.2), slotN x.2.2.1, slotN x.2.2.2)
def slotV (s : SlotB) : List Value := [.string s.1, .int .i64 s.2.1, .string s.2.2.1, .string s.2.2.2]
def litV (x : LitB) : List Value := .int .i64 x.1 :: (slotV x.2.1.1 ++ slotV x.2.1.2.1 ++ slotV x.2.1.2.2 ++ slotV x.2.2.1 ++ slotV x.2.2.2)
theorem byT_tmN {y : TmB} : ByT (tmN y) := ⟨strN_lt, strN_lt⟩
theorem byL_litN {x : LitB} : ByL (litN x) := ⟨byT_tmN, byT_tmN, byT_tmN, byT_tmN, byT_tmN⟩
theorem litV_abs {w : World} {x : LitB} : ∀ j, j < 21 → (((litV x)[j]?).bind (absV w)) = (litC (litN x))[j]? := fun j hj => by
  have : j = 0 ∨ j = 1 ∨ j = 2 ∨ j = 3 ∨ j = 4 ∨ j = 5 ∨ j = 6 ∨ j = 7 ∨ j = 8 ∨ j = 9 ∨ j = 10 ∨ j = 11 ∨ j = 12 ∨ j = 13 ∨ j = 14 ∨ j = 15 ∨ j = 16 ∨ j = 17 ∨ j = 18 ∨ j = 19 ∨ j = 20 := by omega
  rcases this with rfl | rfl | rfl | rfl | rfl | rfl | rfl | rfl | rfl | rfl | rfl | rfl | rfl | rfl | rfl | rfl | rfl | rfl | rfl | rfl | rfl <;> rfl

section
variable {H : Type} {enc : TypeId × Value → H} {P : Program} {W : World} {held : Bool} {t4 t9 t22 t26 t31 t33 t34 t36 t49 t51 t62 t64 t66 t68 : Nat} {f0 f1 f2 g0 g1 k0 k1 k2 k3 q0 q1 q2 q3 r0 r1 : Field}

theorem open_term {fuel : Nat} {cs : List Value} {x : DataW H × List MemPlace} (U51 : P.underlying t51 = some (.struct #[f0, f1, f2])) (e0 : f0.type = t49 ∧ f0.offset = 0) (e1 : f1.type = t9 ∧ f1.offset = 1) (e2 : f2.type = t9 ∧ f2.offset = 2)
    (U49 : P.underlying t49 = some (.int .i64)) (U9 : P.underlying t9 = some .string) (C49 : P.cellsOf t49 = 1) (C9 : P.cellsOf t9 = 1) (hl : cs.length = 3)
    (h : DataW.trod enc P W 0 (fun _ => true) held fuel t51 cs = some x) : ∃ y : TmB, cs = [.int .i64 y.1, .string y.2.1, .string y.2.2] := by
  obtain ⟨y0, y1, y2, n, _, _, h0, h1, h2⟩ := Go.Deep.trod_struct3 U51 h
  rw [e0.1, e0.2, C49] at h0
  rw [e1.1, e1.2, C9] at h1
  rw [e2.1, e2.2, C9] at h2
  obtain ⟨k, k0, _⟩ := DataW.trod_int U49 h0
  obtain ⟨s, s0, _⟩ := DataW.trod_string U9 h1
  obtain ⟨q, q0, _⟩ := DataW.trod_string U9 h2
  match cs, hl with
  | [a, b, c], _ =>
    simp at k0 s0 q0
    exact ⟨(k, s, q), by rw [k0, s0, q0]⟩

theorem open_slot {fuel : Nat} {cs : List Value} {x : DataW H × List MemPlace} (U64 : P.underlying t64 = some (.struct #[g0, g1])) (d0 : g0.type = t9 ∧ g0.offset = 0) (d1 : g1.type = t51 ∧ g1.offset = 1)
    (U51 : P.underlying t51 = some (.struct #[f0, f1, f2])) (e0 : f0.type = t49 ∧ f0.offset = 0) (e1 : f1.type = t9 ∧ f1.offset = 1) (e2 : f2.type = t9 ∧ f2.offset = 2)
    (U49 : P.underlying t49 = some (.int .i64)) (U9 : P.underlying t9 = some .string) (C51 : P.cellsOf t51 = 3) (C49 : P.cellsOf t49 = 1) (C9 : P.cellsOf t9 = 1) (hl : cs.length = 4)
    (h : DataW.trod enc P W 0 (fun _ => true) held fuel t64 cs = some x) : ∃ s : SlotB, cs = slotV s := by
  obtain ⟨y0, y1, n, _, _, h0, h1⟩ := trod_struct2 U64 h
  rw [d0.1, d0.2, C9] at h0
  rw [d1.1, d1.2, C51] at h1
  obtain ⟨v, v0, _⟩ := DataW.trod_string U9 h0
  match cs, hl with
  | [a, b, c, d], _ =>
    simp at v0 h1
    obtain ⟨y, hy⟩ := open_term U51 e0 e1 e2 U49 U9 C49 C9 rfl h1
    exact ⟨(v, y), by rw [v0, hy]; rfl⟩

theorem trod_arr3 {fuel : Nat} {cs : List Value} {x : DataW H × List MemPlace} (ht : P.underlying t66 = some (.array 3 t64)) (hce : P.cellsOf t64 = 4) (h : DataW.trod enc P W 0 (fun _ => true) held fuel t66 cs = some x) :
    ∃ y0 y1 y2 n, DataW.trod enc P W 0 (fun _ => true) held n t64 (cs.take 4) = some y0 ∧ DataW.trod enc P W 0 (fun _ => true) held n t64 ((cs.drop 4).take 4) = some y1 ∧ DataW.trod enc P W 0 (fun _ => true) held n t64 ((cs.drop 8).take 4) = some y2 := by
  cases fuel with
  | zero => simp [DataW.trod] at h
  | succ n =>
    unfold DataW.trod at h
    rw [ht] at h
    have r3 : List.range 3 = [0, 1, 2] := rfl
    simp [r3, hce] at h
    obtain ⟨_, h⟩ := h
    cases h0 : DataW.trod enc P W 0 (fun _ => true) held n t64 (cs.take 4) with
    | none => simp [h0] at h
    | some y0 =>
      cases h1 : DataW.trod enc P W 0 (fun _ => true) held n t64 ((cs.drop 4).take 4) with
      | none => simp [h0, h1] at h
      | some y1 =>
        cases h2 : DataW.trod enc P W 0 (fun _ => true) held n t64 ((cs.drop 8).take 4) with
        | none => simp [h0, h1, h2] at h
        | some y2 => exact ⟨y0, y1, y2, n, h0, h1, h2⟩

/-- what a type must be that parts may be opened -/
structure LitTy (P : Program) (t9 t49 t51 t62 t64 t66 t68 : Nat) : Prop where
  U51 : ∃ f0 f1 f2 : Field, P.underlying t51 = some (.struct #[f0, f1, f2]) ∧ (f0.type = t49 ∧ f0.offset = 0) ∧ (f1.type = t9 ∧ f1.offset = 1) ∧ (f2.type = t9 ∧ f2.offset = 2)
  U64 : ∃ g0 g1 : Field, P.underlying t64 = some (.struct #[g0, g1]) ∧ (g0.type = t9 ∧ g0.offset = 0) ∧ (g1.type = t51 ∧ g1.offset = 1)
  U66 : P.underlying t66 = some (.array 3 t64)
  U68 : ∃ k0 k1 k2 k3 : Field, P.underlying t68 = some (.struct #[k0, k1, k2, k3]) ∧ (k0.type = t62 ∧ k0.offset = 0) ∧ (k1.type = t66 ∧ k1.offset = 1) ∧ (k2.type = t64 ∧ k2.offset = 13) ∧ (k3.type = t64 ∧ k3.offset = 17)
  U49 : P.underlying t49 = some (.int .i64)
  U62 : P.underlying t62 = some (.int .i64)
  U9 : P.underlying t9 = some .string
  C9 : P.cellsOf t9 = 1
  C49 : P.cellsOf t49 = 1
  C62 : P.cellsOf t62 = 1
  C51 : P.cellsOf t51 = 3
  C64 : P.cellsOf t64 = 4
  C66 : P.cellsOf t66 = 12
  C68 : P.cellsOf t68 = 21

theorem LitTy.slot (T : LitTy P t9 t49 t51 t62 t64 t66 t68) {fuel : Nat} {cs : List Value} {x : DataW H × List MemPlace} (hl : cs.length = 4) (h : DataW.trod enc P W 0 (fun _ => true) held fuel t64 cs = some x) : ∃ s : SlotB, cs = slotV s := by
  obtain ⟨f0, f1, f2, a1, a2, a3, a4⟩ := T.U51
  obtain ⟨g0, g1, b1, b2, b3⟩ := T.U64
  exact open_slot b1 b2 b3 a1 a2 a3 a4 T.U49 T.U9 T.C51 T.C49 T.C9 hl h

theorem LitTy.lit (T : LitTy P t9 t49 t51 t62 t64 t66 t68) {fuel : Nat} {cs : List Value} {x : DataW H × List MemPlace} (hl : cs.length = 21) (h : DataW.trod enc P W 0 (fun _ => true) held fuel t68 cs = some x) : ∃ y : LitB, cs = litV y := by
  obtain ⟨k0, k1, k2, k3, c1, c2, c3, c4, c5⟩ := T.U68
  obtain ⟨y0, y1, y2, y3, n, _, _, h0, h1, h2, h3⟩ := trod_struct4 c1 h
  rw [c2.1, c2.2, T.C62] at h0
  rw [c3.1, c3.2, T.C66] at h1
  rw [c4.1, c4.2, T.C64] at h2
  rw [c5.1, c5.2, T.C64] at h3
  obtain ⟨k, hk, _⟩ := DataW.trod_int T.U62 h0
  obtain ⟨z0, z1, z2, n', p0, p1, p2⟩ := trod_arr3 T.U66 T.C64 h1
  match cs, hl with
  | [a0, a1, a2, a3, a4, a5, a6, a7, a8, a9, a10, a11, a12, a13, a14, a15, a16, a17, a18, a19, a20], _ =>
    simp at hk
    obtain ⟨s0, e0⟩ := T.slot rfl p0
    obtain ⟨s1, e1⟩ := T.slot rfl p1
    obtain ⟨s2, e2⟩ := T.slot rfl p2
    obtain ⟨s3, e3⟩ := T.slot rfl h2
    obtain ⟨s4, e4⟩ := T.slot rfl h3
    have e0' : [a1, a2, a3, a4] = slotV s0 := e0
    have e1' : [a5, a6, a7, a8] = slotV s1 := e1
    have e2' : [a9, a10, a11, a12] = slotV s2 := e2
    have e3' : [a13, a14, a15, a16] = slotV s3 := e3
    have e4' : [a17, a18, a19, a20] = slotV s4 := e4
    refine ⟨(k, (s0, s1, s2), s3, s4), ?_⟩
    show _ = .int .i64 k :: (slotV s0 ++ slotV s1 ++ slotV s2 ++ slotV s3 ++ slotV s4)
    rw [← e0', ← e1', ← e2', ← e3', ← e4', hk]; rfl

/-- a slice of parts -/
theorem LitTy.lits (T : LitTy P t9 t49 t51 t62 t64 t66 t68) {fuel : Nat} {v : Value} {x : DataW H × List MemPlace} (U34 : P.underlying t34 = some (.slice t68)) (h : DataW.trod enc P W 0 (fun _ => true) held fuel t34 [v] = some x) :
    ∃ (u : V) (l : List LitT), absV W v = some u ∧ LitIn (heap0 W) W.heap.size u l ∧ ∀ i, i < l.length → ByL (l.getD i zLit) := by
  rcases Go.Deep.open_slice U34 h with ⟨hcs, _⟩ | ⟨a, len, cap, m, n, D, Pl, hcs, _, hl, _, hmm, _, hx⟩
  · simp at hcs
    subst hcs
    exact ⟨.base (.slice none 0 0), [], rfl, ⟨.nil none, fun i hi => (by cases hi)⟩, fun i hi => absurd hi (by simp)⟩
  · simp at hcs
    subst hcs
    simp only [if_true] at hmm
    subst hmm
    by_cases c0 : m = 0
    · subst c0
      obtain rfl : len = 0 := by omega
      exact ⟨.base (.slice (some a) 0 0), [], rfl, ⟨.nil (some a), fun i hi => (by cases hi)⟩, fun i hi => absurd hi (by simp)⟩
    · have hcell : ∀ i, i < m → ∃ y : LitB, ∀ j, j < 21 → ∃ u, (litV y)[j]? = some u ∧ W.cell? (a.add (i * 21 + j)) = some u := fun i hi => by
        obtain ⟨cs', h1, h2⟩ := hx i hi
        rw [T.C68] at h1
        obtain ⟨_, hlen, hc⟩ := World.cells?_some h1
        obtain ⟨y, rfl⟩ := T.lit hlen h2
        refine ⟨y, fun j hj => ?_⟩
        have hj' : j < (litV y).length := by rw [hlen]; exact hj
        refine ⟨(litV y)[j], List.getElem?_eq_getElem hj', ?_⟩
        have := hc j hj
        rw [Go.Deep.add_add, List.getElem?_eq_getElem hj'] at this
        exact this
      haveI : Inhabited LitB := ⟨(0, ((⟨#[]⟩, 0, ⟨#[]⟩, ⟨#[]⟩), (⟨#[]⟩, 0, ⟨#[]⟩, ⟨#[]⟩), (⟨#[]⟩, 0, ⟨#[]⟩, ⟨#[]⟩)), (⟨#[]⟩, 0, ⟨#[]⟩, ⟨#[]⟩), (⟨#[]⟩, 0, ⟨#[]⟩, ⟨#[]⟩))⟩
      obtain ⟨y, hy⟩ := Go.Deep.choose_lt hcell
      obtain ⟨u0, hu0, hc0⟩ := hy 0 (by omega) 0 (by omega)
      obtain ⟨b, off, rfl, h00⟩ := addrPlain hc0
      obtain ⟨c, g1, g2, g3, g4⟩ := cell_given W h00
      have get : ∀ {j : Nat} {u : Value}, W.cell? ⟨b, off + j, none⟩ = some u → off + j < c.size ∧ (cellsT W c).get (off + j) = absV W u := fun hj => by
        obtain ⟨c', k1, k2, k3, _⟩ := cell_given W hj
        rw [g1] at k1
        injection k1 with k1
        injection k1 with k4 k5
        rw [k4, k5]; exact ⟨k2, k3⟩
      have lenL : ((List.range len).map fun i => litN (y i)).length = len := by simp
      have getL : ∀ i, i < len → ((List.range len).map fun i => litN (y i)).getD i zLit = litN (y i) := fun i hi => by
        rw [List.getD_eq_getElem?_getD, List.getElem?_map, List.getElem?_range hi]; rfl
      refine ⟨.slice b off len true m len, (List.range len).map fun i => litN (y i), absV_slice g4 hl (by omega), ⟨?_, fun i hi => (by cases hi; exact g4)⟩, fun i hi => ?_⟩
      · rw [lenL]
        refine .slice _ _ _ _ _ _ (Nat.le_refl _) ⟨_, cellsT W c, c.size, 1, g1, .inr rfl, ?_, fun j hj => ?_⟩
        · by_cases l0 : len = 0
          · subst l0; have := (get (j := 0) h00).1; omega
          · obtain ⟨u, hu, hc⟩ := hy (len - 1) (by omega) 20 (by omega)
            rw [addr_add] at hc
            have := (get hc).1; omega
        · have hq : j / 21 < len := by omega
          obtain ⟨u, hu, hc⟩ := hy (j / 21) (by omega) (j % 21) (by omega)
          rw [addr_add, show j / 21 * 21 + j % 21 = j by omega] at hc
          rw [(get hc).2]
          unfold litG
          rw [getL _ hq]
          have hab := litV_abs (w := W) (x := y (j / 21)) (j % 21) (by omega)
          rw [hu] at hab
          have hab' : absV W u = (litC (litN (y (j / 21))))[j % 21]? := hab
          rw [hab', List.getD_eq_getElem?_getD, List.getElem?_eq_getElem (by rw [litC_len]; omega)]; rfl
      · rw [lenL] at hi
        rw [getL i hi]; exact byL_litN

/-- a slice of texts -/
theorem open_strs {fuel : Nat} {v : Value} {x : DataW H × List MemPlace} (U33 : P.underlying t33 = some (.slice t9)) (U9 : P.underlying t9 = some .string) (C9 : P.cellsOf t9 = 1) (h : DataW.trod enc P W 0 (fun _ => true) held fuel t33 [v] = some x) :
    ∃ (u : V) (l : List (List Nat)), absV W v = some u ∧ StrIn (heap0 W) W.heap.size u l := by
  rcases Go.Deep.open_slice1 U33 C9 h with ⟨hcs, _⟩ | ⟨a, len, cap, m, n, X, D, Pl, hcs, _, hl, _, hmm, _, hx⟩
  · simp at hcs
    subst hcs
    exact ⟨.base (.slice none 0 0), [], rfl, .nil none, fun i hi => (by cases hi)⟩
  · simp at hcs
    subst hcs
    simp only [if_true] at hmm
    subst hmm
    by_cases c0 : m = 0
    · subst c0
      obtain rfl : len = 0 := by omega
      exact ⟨.base (.slice (some a) 0 0), [], rfl, .nil (some a), fun i hi => (by cases hi)⟩
    · haveI : Inhabited ByteArray := ⟨⟨#[]⟩⟩
      have hcell : ∀ i, i < m → ∃ s : ByteArray, W.cell? (a.add i) = some (.string s) := fun i hi => by
        obtain ⟨h1, h2⟩ := hx i hi
        obtain ⟨s, s0, _⟩ := DataW.trod_string U9 h2
        have s0' : X i = .string s := by simpa using s0
        exact ⟨s, by rw [h1, s0']⟩
      obtain ⟨y, hy⟩ := Go.Deep.choose_lt hcell
      obtain ⟨b, off, rfl, h00⟩ := addrPlain (hy 0 (by omega))
      obtain ⟨c, g1, g2, g3, g4⟩ := cell_given W h00
      simp only [addr_add] at hy
      have get : ∀ {j : Nat} {u : Value}, W.cell? ⟨b, off + j, none⟩ = some u → off + j < c.size ∧ (cellsT W c).get (off + j) = absV W u := fun hj => by
        obtain ⟨c', k1, k2, k3, _⟩ := cell_given W hj
        rw [g1] at k1
        injection k1 with k1
        injection k1 with k4 k5
        rw [k4, k5]; exact ⟨k2, k3⟩
      refine ⟨.slice b off len true m len, (List.range len).map fun i => strN (y i), absV_slice g4 hl (by omega), ?_, fun i hi => (by cases hi; exact g4)⟩
      have e : ((List.range len).map fun i => strN (y i)).length = len := by simp
      rw [e]
      refine .slice _ _ _ _ _ _ (Nat.le_refl _) ⟨_, cellsT W c, c.size, 1, g1, .inr rfl, ?_, fun j hj => ?_⟩
      · by_cases l0 : len = 0
        · subst l0; have := (get (j := 0) h00).1; omega
        · have := (get (hy (len - 1) (by omega))).1; omega
      · have hj' : j < len := by omega
        rw [(get (hy j (by omega))).2]
        show some (V.str (strN (y j))) = some (V.str (((List.range len).map fun i => strN (y i)).getD j []))
        rw [List.getD_eq_getElem?_getD, List.getElem?_map, List.getElem?_range hj']; rfl

theorem open_row {fuel : Nat} {v : Value} {x : DataW H × List MemPlace} (T : LitTy P t9 t49 t51 t62 t64 t66 t68) (U31 : P.underlying t31 = some (.slice t51))
    (h : DataW.trod enc P W 0 (fun _ => true) held fuel t31 [v] = some x) : ∃ y : V × List Tm, absV W v = some y.1 ∧ RowIn (heap0 W) W.heap.size y.1 y.2 ∧ ∀ x ∈ y.2, ByT x := by
  obtain ⟨f0, f1, f2, U51, e0, e1, e2⟩ := T.U51
  rcases Go.Deep.open_slice U31 h with ⟨hcs, _⟩ | ⟨a, len, cap, m, n, D, Pl, hcs, _, hl, _, hmm, _, hx⟩
  · simp at hcs
    subst hcs
    exact ⟨(.base (.slice none 0 0), []), rfl, ⟨.nil none, fun i hi => (by cases hi)⟩, fun x hx => by cases hx⟩
  · simp at hcs
    subst hcs
    simp only [if_true] at hmm
    subst hmm
    by_cases c0 : m = 0
    · subst c0
      obtain rfl : len = 0 := by omega
      exact ⟨(.base (.slice (some a) 0 0), []), rfl, ⟨.nil (some a), fun i hi => (by cases hi)⟩, fun x hx => by cases hx⟩
    · have hcell : ∀ i, i < m → ∃ y : TmB, W.cell? (a.add (i * 3)) = some (.int .i64 y.1) ∧ W.cell? (a.add (i * 3 + 1)) = some (.string y.2.1) ∧ W.cell? (a.add (i * 3 + 2)) = some (.string y.2.2) := fun i hi => by
        obtain ⟨cs', h1, h2⟩ := hx i hi
        rw [T.C51] at h1
        obtain ⟨_, hlen, hc⟩ := World.cells?_some h1
        obtain ⟨y, rfl⟩ := open_term U51 e0 e1 e2 T.U49 T.U9 T.C49 T.C9 hlen h2
        refine ⟨y, ?_, ?_, ?_⟩
        · have := hc 0 (by omega)
          rw [Go.Deep.add_add] at this; exact this
        · have := hc 1 (by omega)
          rw [Go.Deep.add_add] at this; exact this
        · have := hc 2 (by omega)
          rw [Go.Deep.add_add] at this; exact this
      haveI : Inhabited TmB := ⟨(0, ⟨#[]⟩, ⟨#[]⟩)⟩
      obtain ⟨y, hy⟩ := Go.Deep.choose_lt hcell
      obtain ⟨b, off, rfl, h00⟩ := addrPlain (hy 0 (by omega)).1
      obtain ⟨c, g1, g2, g3, g4⟩ := cell_given W h00
      simp only [addr_add] at hy
      have get : ∀ {j : Nat} {u : Value}, W.cell? ⟨b, off + j, none⟩ = some u → off + j < c.size ∧ (cellsT W c).get (off + j) = absV W u := fun hj => by
        obtain ⟨c', k1, k2, k3, _⟩ := cell_given W hj
        rw [g1] at k1
        injection k1 with k1
        injection k1 with k4 k5
        rw [k4, k5]; exact ⟨k2, k3⟩
      refine ⟨(.slice b off len true m len, (List.range len).map fun i => tmN (y i)), absV_slice g4 hl (by omega), ⟨?_, fun i hi => (by cases hi; exact g4)⟩, fun x hx => ?_⟩
      · have e : ((List.range len).map fun i => tmN (y i)).length = len := by simp
        unfold Row
        rw [e]
        refine .slice _ _ _ _ _ _ (Nat.le_refl _) ⟨_, cellsT W c, c.size, 1, g1, .inr rfl, ?_, fun j hj => ?_⟩
        · by_cases l0 : len = 0
          · subst l0; have := (get (j := 0) h00).1; omega
          · have := (get (hy (len - 1) (by omega)).2.2).1; omega
        · have hq : j / 3 < len := by omega
          obtain ⟨z0, z1, z2⟩ := hy (j / 3) (by omega)
          have hr : ((List.range len).map fun i => tmN (y i)).getD (j / 3) (0, [], []) = tmN (y (j / 3)) := by
            rw [List.getD_eq_getElem?_getD, List.getElem?_map, List.getElem?_range hq]; rfl
          unfold rowG
          rw [hr]
          rcases (by omega : j % 3 = 0 ∨ j % 3 = 1 ∨ j % 3 = 2) with r | r | r
          · rw [if_pos r]
            have := (get z0).2
            rw [show j / 3 * 3 = j by omega] at this
            exact this
          · rw [if_neg (by omega), if_pos r]
            have := (get z1).2
            rw [show j / 3 * 3 + 1 = j by omega] at this
            exact this
          · rw [if_neg (by omega), if_neg (by omega)]
            have := (get z2).2
            rw [show j / 3 * 3 + 2 = j by omega] at this
            exact this
      · obtain ⟨i, _, rfl⟩ := List.mem_map.1 hx
        exact byT_tmN

theorem open_rows {fuel : Nat} {v : Value} {x : DataW H × List MemPlace} (T : LitTy P t9 t49 t51 t62 t64 t66 t68) (U22 : P.underlying t22 = some (.slice t31)) (U31 : P.underlying t31 = some (.slice t51)) (C31 : P.cellsOf t31 = 1)
    (hf : DataW.trod enc P W 0 (fun _ => true) held fuel t22 [v] = some x) : ∃ va l, absV W v = some va ∧ RowsIn (heap0 W) W.heap.size va l ∧ ByRows l := by
  rcases Go.Deep.open_slice1 U22 C31 hf with ⟨hcs, _⟩ | ⟨a, len, cap, m, n, X, D, Pl, hcs, _, hl, _, hmm, _, hx⟩
  · simp at hcs
    subst hcs
    exact ⟨.base (.slice none 0 0), [], rfl, ⟨fun i hi => (by cases hi), fun _ => undefV, .nil none, fun i hi => absurd hi (by simp)⟩, fun r hr => by cases hr⟩
  · simp at hcs
    subst hcs
    simp only [if_true] at hmm
    subst hmm
    by_cases c0 : m = 0
    · subst c0
      obtain rfl : len = 0 := by omega
      exact ⟨.base (.slice (some a) 0 0), [], rfl, ⟨fun i hi => (by cases hi), fun _ => undefV, .nil (some a), fun i hi => absurd hi (by simp)⟩, fun r hr => by cases hr⟩
    · haveI : Inhabited (V × List Tm) := ⟨(undefV, [])⟩
      obtain ⟨y, hy⟩ := Go.Deep.choose_lt (α := V × List Tm) fun i (hi : i < m) => open_row T U31 (hx i hi).2
      obtain ⟨b, off, rfl, h00⟩ := addrPlain (hx 0 (by omega)).1
      obtain ⟨c, g1, g2, g3, g4⟩ := cell_given W h00
      have hcell : ∀ i, i < m → W.cell? ⟨b, off + i, none⟩ = some (X i) := fun i hi => by
        have := (hx i hi).1
        rwa [addr_add] at this
      have get : ∀ {j : Nat} {u : Value}, W.cell? ⟨b, off + j, none⟩ = some u → off + j < c.size ∧ (cellsT W c).get (off + j) = absV W u := fun hj => by
        obtain ⟨c', k1, k2, k3, _⟩ := cell_given W hj
        rw [g1] at k1
        injection k1 with k1
        injection k1 with k4 k5
        rw [k4, k5]; exact ⟨k2, k3⟩
      refine ⟨.slice b off len true m len, (List.range len).map fun i => (y i).2, absV_slice g4 hl (by omega), ⟨fun i hi => (by cases hi; exact g4), fun i => (y i).1, ?_, fun i hi => ?_⟩, fun r hr => ?_⟩
      · have e : ((List.range len).map fun i => (y i).2).length = len := by simp
        rw [e]
        refine .slice _ _ _ _ _ _ (Nat.le_refl _) ⟨_, cellsT W c, c.size, 1, g1, .inr rfl, ?_, fun j hj => ?_⟩
        · by_cases l0 : len = 0
          · subst l0; have := (get (j := 0) h00).1; omega
          · have := (get (hcell (len - 1) (by omega))).1; omega
        · rw [(get (hcell j (by omega))).2]
          exact (hy j (by omega)).1
      · have hi : i < len := by simpa using hi
        rw [List.getD_eq_getElem?_getD, List.getElem?_map, List.getElem?_range hi]
        exact (hy i (by omega)).2.1
      · obtain ⟨i, hi, rfl⟩ := List.mem_map.1 hr
        have hi : i < len := by simpa using hi
        exact (hy i (by omega)).2.2

/-- a question that came in -/
theorem open_query {v : Value} {d : DataW H} {p : List MemPlace} (T : LitTy P t9 t49 t51 t62 t64 t66 t68) (U36 : P.underlying t36 = some (.struct #[q0, q1, q2, q3])) (e0 : q0.type = t4 ∧ q0.offset = 0) (e1 : q1.type = t4 ∧ q1.offset = 1) (e2 : q2.type = t33 ∧ q2.offset = 2) (e3 : q3.type = t34 ∧ q3.offset = 3)
    (U4 : P.underlying t4 = some .bool) (U33 : P.underlying t33 = some (.slice t9)) (U34 : P.underlying t34 = some (.slice t68)) (C4 : P.cellsOf t4 = 1) (C33 : P.cellsOf t33 = 1) (C34 : P.cellsOf t34 = 1) (C36 : P.cellsOf t36 = 4)
    (h : DataW.Trod enc P W 0 (fun _ => true) held t36 v d p) :
    ∃ (ask dist : Bool) (vv vb : V) (vars : List (List Nat)) (body : List LitT), conc (beta0 W) (.agg [.bool ask, .bool dist, vv, vb]) = some v ∧ StrIn (heap0 W) W.heap.size vv vars ∧ LitIn (heap0 W) W.heap.size vb body ∧ ∀ i, i < body.length → ByL (body.getD i zLit) := by
  obtain ⟨fuel, hf⟩ := h
  obtain ⟨y0, y1, y2, y3, n, _, hl, h0, h1, h2, h3⟩ := trod_struct4 U36 hf
  rw [C36] at hl
  rw [e0.1, e0.2, C4] at h0
  rw [e1.1, e1.2, C4] at h1
  rw [e2.1, e2.2, C33] at h2
  rw [e3.1, e3.2, C34] at h3
  obtain ⟨c0, c1, c2, c3, rfl⟩ : ∃ c0 c1 c2 c3, v = .agg #[c0, c1, c2, c3] := by
    cases v with
    | agg cs =>
      obtain ⟨c0, c1, c2, c3, rfl⟩ := array4 (cs := cs) (by simpa [Value.cells] using hl)
      exact ⟨c0, c1, c2, c3, rfl⟩
    | _ => simp [Value.cells] at hl
  obtain ⟨ask, ha, _⟩ := DataW.trod_bool U4 h0
  obtain ⟨dist, hd, _⟩ := DataW.trod_bool U4 h1
  have ha' : c0 = .bool ask := by simpa [Value.cells] using ha
  have hd' : c1 = .bool dist := by simpa [Value.cells] using hd
  obtain ⟨vv, vars, a2, R2⟩ := open_strs (v := c2) U33 T.U9 T.C9 h2
  obtain ⟨vb, body, a3, R3, B3⟩ := T.lits (v := c3) U34 h3
  refine ⟨ask, dist, vv, vb, vars, body, ?_, R2, R3, B3⟩
  rw [ha', hd']
  simp only [conc, concL, absV_conc W a2, absV_conc W a3, Option.bind_some, Option.map_some]

/-- an answer that came in -/
theorem open_answer {v : Value} {d : DataW H} {p : List MemPlace} (T : LitTy P t9 t49 t51 t62 t64 t66 t68) (U26 : P.underlying t26 = some (.struct #[r0, r1])) (e0 : r0.type = t4 ∧ r0.offset = 0) (e1 : r1.type = t22 ∧ r1.offset = 1)
    (U4 : P.underlying t4 = some .bool) (U22 : P.underlying t22 = some (.slice t31)) (U31 : P.underlying t31 = some (.slice t51)) (C4 : P.cellsOf t4 = 1) (C22 : P.cellsOf t22 = 1) (C31 : P.cellsOf t31 = 1) (C26 : P.cellsOf t26 = 2)
    (h : DataW.Trod enc P W 0 (fun _ => true) held t26 v d p) :
    ∃ (yes : Bool) (vr : V) (rows : List (List Tm)), conc (beta0 W) (.agg [.bool yes, vr]) = some v ∧ RowsIn (heap0 W) W.heap.size vr rows ∧ ByRows rows := by
  obtain ⟨fuel, hf⟩ := h
  obtain ⟨y0, y1, n, _, hl, h0, h1⟩ := trod_struct2 U26 hf
  rw [C26] at hl
  rw [e0.1, e0.2, C4] at h0
  rw [e1.1, e1.2, C22] at h1
  obtain ⟨c0, c1, rfl⟩ : ∃ c0 c1, v = .agg #[c0, c1] := by
    cases v with
    | agg cs =>
      obtain ⟨l⟩ := cs
      have hl' : l.length = 2 := by simpa [Value.cells] using hl
      match l, hl' with
      | [c0, c1], _ => exact ⟨c0, c1, rfl⟩
    | _ => simp [Value.cells] at hl
  obtain ⟨yes, ha, _⟩ := DataW.trod_bool U4 h0
  have ha' : c0 = .bool yes := by simpa [Value.cells] using ha
  obtain ⟨vr, rows, a2, R2, B2⟩ := open_rows (v := c1) T U22 U31 C31 h1
  refine ⟨yes, vr, rows, ?_, R2, B2⟩
  rw [ha']
  simp only [conc, concL, absV_conc W a2, Option.bind_some, Option.map_some]
end
end Go.Mir
