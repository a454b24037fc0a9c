/- The small machine against the model: append. No statement of the program stands here. -/
import Derived.Test.YtojkinikdcelbaaGreatDoorNMirAI
import Derived.Laws.AppendOwn
set_option linter.unusedSimpArgs false
set_option linter.unusedVariables false
set_option linter.defProp false
namespace Go.Mir
open Go Go.RowKit

section
variable {P : Program} {tys : T TI} (HT : TysR P tys)

include HT in
theorem notInt_ok {t : Nat} (h : notInt tys t = true) : (∃ e, P.underlying t = some (.slice e)) ∨ P.underlying t = some .string := by
  unfold notInt at h
  split at h
  · rename_i ti hti
    split at h
    · rename_i e hk; exact .inl ⟨e, (HT _ _ hti).slice hk⟩
    · rename_i hk
      obtain ⟨d, hd, h2⟩ := (HT _ _ hti).und
      rw [hk] at h2
      cases d <;> simp only [KindR] at h2
      exact .inr hd
    · cases h
  · cases h

include HT in
theorem isIntTy_ok {t : Nat} (h : isIntTy tys t = true) : ∃ k, P.underlying t = some (.int k) := by
  unfold isIntTy at h
  split at h
  · rename_i ti hti
    split at h
    · rename_i k hk
      obtain ⟨d, hd, h2⟩ := (HT _ _ hti).und
      rw [hk] at h2
      cases d <;> simp only [KindR] at h2
      exact ⟨_, hd⟩
    · cases h
  · cases h

/-- what is appended: cells that are there, or as many zero ones -/
def Src (P : Program) (t2 e esz : Nat) (w : World) (vx : Value) (m : Nat) (us : List Value) : Prop :=
  (((∃ e, P.underlying t2 = some (.slice e)) ∨ P.underlying t2 = some .string) ∧ (∀ w, (Builtin.lenOf vx).run P w = .ok m w) ∧ (Builtin.firstCells esz m vx).run P w = .ok us.toArray w)
  ∨ (∃ k j i zv, P.underlying t2 = some (.int k) ∧ vx = .int j (m : Int) ∧ m ≤ 1000000 ∧ P.info? e = some i ∧ i.zero = some zv ∧ i.bytes ≤ 65536 ∧ zv.cells.size = i.size ∧ us = (Builtin.zeroCells zv.cells m).toList)

def SrcSpec (P : Program) (h : T O) (t2 e esz : Nat) (x : V) (l : List V) (m : Nat) : Prop :=
  l.length = m * esz ∧ ∀ W0 β n w, HR W0 β h n w → ∀ vx, conc β x = some vx → ∃ us, concL β l = some us ∧ Src P t2 e esz w vx m us

theorem concL_bytes {β : Beta} : ∀ (l : List Nat), concL β (l.map fun b => V.int .u8 (.ofNat b)) = some (l.map fun b : Nat => Value.int .u8 (b : Int))
  | [] => rfl
  | b :: l => by simp only [List.map_cons, concL, conc, concL_bytes l]; rfl

include HT in
theorem srcK_ok {h : T O} {t2 el : Nat} {te : TI} {x : V} {k : List V → Nat → Out} {r : Rz} (h2 : srcTy tys t2 x = true) (hte : TIok P el te) (e : srcK h te x k = .ok r) : ∃ l m, k l m = .ok r ∧ SrcSpec P h t2 el te.size x l m := by
  unfold srcK at e
  split at e
  · split at e
    · rename_i m
      replace e := need_ok e; obtain ⟨hm, e⟩ := e
      have hm : m ≤ 1000000 := Nat.le_of_ble_eq_true hm
      replace e := repL_ok e
      obtain ⟨i, hi, hs, hb, z, hz, hzc, _, _, hzl⟩ := hte.info
      obtain ⟨kk, hkk⟩ := isIntTy_ok HT h2
      have hsm := hte.small
      refine ⟨_, _, e, by simp [hzl], fun W0 β n w H vx hx => ⟨(Builtin.zeroCells z.cells m).toList, ?_, .inr ⟨kk, _, i, z, hkk, by cases hx; rfl, hm, hi, hz, by omega, ?_, rfl⟩⟩⟩
      · have hzz : (Builtin.zeroCells z.cells m).toList = (List.replicate m z.cells.toList).flatten := zeros_eq z.cells m
        rw [hzz]
        exact concL_rep (concL_mono (fun _ _ h => by cases h) _ _ hzc) m
      · have := concL_len hzc
        rw [hzl] at this
        simpa [hs] using this
    · exact (bad_ne e).elim
  · rename_i ad m cap
    replace e := need_ok e; obtain ⟨hm, e⟩ := e
    have hm := beq_of hm
    subst hm
    refine ⟨_, _, e, by simp, fun W0 β n w H vx hx => ⟨[], rfl, .inl ⟨notInt_ok HT h2, fun w => ?_, ?_⟩⟩⟩
    · simp only [conc] at hx; split at hx <;> cases hx; simp [Builtin.lenOf]
    · simp only [conc] at hx
      split at hx <;> cases hx
      cases ad with
      | none => simp [Builtin.firstCells]
      | some ad => exact run_firstCells_some w te.size 0 _ _ _ [] (by simp) fun j v hj => by simp at hj
  · rename_i id off len ex kk lo
    replace e := cellsAt_ok e; obtain ⟨l, e, hl, hc⟩ := e
    refine ⟨_, _, e, hl, fun W0 β n w H vx hx => ?_⟩
    obtain ⟨b, hb, _, rfl⟩ := conc_slice hx
    obtain ⟨us, hus, hlen, hcell⟩ := hc W0 β n w H b hb
    exact ⟨us, hus, .inl ⟨notInt_ok HT h2, fun w => by simp [Builtin.lenOf], run_firstCells_some w te.size len _ _ _ us hlen fun j v hj => by rw [add_none]; exact hcell j v hj⟩⟩
  · refine ⟨_, _, e, by simp, fun W0 β n w H vx hx => ?_⟩
    simp only [conc, Option.map_eq_some_iff] at hx
    obtain ⟨b, hb, rfl⟩ := hx
    exact ⟨[], rfl, .inl ⟨notInt_ok HT h2, fun w => by simp [Builtin.lenOf], run_firstCells_some w te.size 0 _ _ _ [] (by simp) fun j v hj => by simp at hj⟩⟩
  · rename_i l
    replace e := need_ok e; obtain ⟨h1, e⟩ := e
    have h1 := beq_of h1
    replace e := strVs_ok e
    rw [fNat_eq] at e
    refine ⟨_, _, e, by simp [h1], fun W0 β n w H vx hx => ?_⟩
    simp only [conc] at hx
    split at hx <;> cases hx
    rename_i hall
    have hsz : (bytesOf l).size = l.length := by simp [bytesOf, ByteArray.size]
    refine ⟨_, concL_bytes l, .inl ⟨notInt_ok HT h2, fun w => by simp [Builtin.lenOf, hsz], ?_⟩⟩
    have hcells : ((bytesOf l).extract 0 l.length).data.map (fun b => Value.int .u8 b.toNat) = (l.map fun b : Nat => Value.int .u8 (b : Int)).toArray := by
      have he : ((bytesOf l).extract 0 l.length).data = (bytesOf l).data := by
        rw [ByteArray.data_extract, ← hsz]
        exact Array.extract_size
      rw [he]
      simp only [bytesOf, List.map_toArray, List.map_map]
      congr 1
      apply List.map_congr_left
      intro b hb
      have : b < 256 := by
        have := List.all_eq_true.1 hall b hb
        simpa using this
      simp [Function.comp, UInt8.toNat_ofNat', Nat.mod_eq_of_lt this]
    simp only [Builtin.firstCells, Sem.run_pure, hcells]
  · exact (bad_ne e).elim

theorem wrap_small {n : Nat} (h : n ≤ 1000000) : IntKind.i64.wrap (n : Int) = n := wrap64 n (by unfold most64; omega)

theorem small_bytes {n b : Nat} (h : n ≤ 1000000) (hb : b ≤ 65536) : ¬ (281474976710656 < (n : Int) * (b : Int)) := by
  have : n * b ≤ 1000000 * 65536 := Nat.mul_le_mul h hb
  have h2 : ((n * b : Nat) : Int) ≤ 65536000000 := by omega
  rw [Int.natCast_mul] at h2
  omega

theorem zc_nil {z : Array Value} {n : Nat} (h : n * z.size = 0) : Builtin.zeroCells z n = #[] := by
  simp [Builtin.zeroCells, h]

theorem run_grow {w : World} {t t2 ty e : TypeId} {i : TypeInfo} {z : Value} (ht : P.underlying t = some (.slice e))
    (hi : P.info? e = some i) (hz : i.zero = some z) {vx : Value} {base : Option Addr} {sLen sCap n : Nat} {olds : Array Value} {news : List Value}
    (hold : (Builtin.firstCells i.size sLen (.slice base sLen sCap)).run P w.drew = .ok olds w.drew) (hnew : Src P t2 e i.size w.drew vx n news)
    (hg : sCap < sLen + n) (h6 : sLen + n ≤ 1000000) (hb : i.bytes ≤ 65536) :
    (Builtin.append_ #[t, t2] ty #[.slice base sLen sCap, vx]).run P w =
      .ok (.slice (some ⟨w.heap.size, 0, none⟩) (sLen + n) (grownCap w (sLen + n) sCap e))
        (w.drew.alloc (.cells (olds ++ news.toArray ++ Builtin.zeroCells z.cells (grownCap w (sLen + n) sCap e - (sLen + n))) e)) := by
  have hn : ¬ (sLen + n ≤ sCap) := by omega
  have h63' : ¬ (9223372036854775807 < ((sLen : Int) + (n : Int))) := by omega
  have h48' : ¬ (281474976710656 < Builtin.nextslicecap (sLen + n) sCap * i.bytes) := by
    have h1 := nextslicecap_le hg
    have h3 : Builtin.nextslicecap (sLen + n) sCap * i.bytes ≤ 2 * (sLen + n) * 65536 := Nat.mul_le_mul h1 hb
    omega
  rcases hnew with ⟨⟨e2, h2⟩ | h2, hlen, hnew⟩ | ⟨k, j, i', zv, h2, rfl, hm, hi', hz', _, hzs, rfl⟩
  · simp [Builtin.append_, run_underlying ht, run_underlying h2, sizeOf, typeInfo, zeroValue, hi, hz, hlen, hn, h63', h48', Question.forced, hold, hnew, newRow, grownCap]
  · simp [Builtin.append_, run_underlying ht, run_underlying h2, sizeOf, typeInfo, zeroValue, hi, hz, hlen, hn, h63', h48', Question.forced, hold, hnew, newRow, grownCap]
  · rw [hi] at hi'; cases hi'
    rw [hz] at hz'; cases hz'
    have hw := wrap_small hm
    have h0 : ¬ ((n : Int) < 0) := by omega
    have h48 : ¬ (281474976710656 < (n : Int) * (i.bytes : Int)) := small_bytes hm hb
    rcases Nat.eq_zero_or_pos (n * i.size) with h1 | h1
    · have hzc : Builtin.zeroCells z.cells n = #[] := zc_nil (by rw [hzs]; exact h1)
      simp [Builtin.append_, run_underlying ht, run_underlying h2, asInt, asIntOf, hw, h0, h48, sizeOf, typeInfo, zeroValue, hi, hz, hn, h63', h48', h1, hzc, Question.forced, hold, newRow, grownCap]
    · have h1 : ¬ (n * i.size = 0) := by omega
      simp [Builtin.append_, run_underlying ht, run_underlying h2, asInt, asIntOf, hw, h0, h48, sizeOf, typeInfo, zeroValue, hi, hz, hn, h63', h48', h1, Question.forced, hold, newRow, grownCap]

theorem run_room {w w' : World} {t t2 ty e : TypeId} {i : TypeInfo} (ht : P.underlying t = some (.slice e))
    (hi : P.info? e = some i) {vx : Value} {base : Option Addr} {sLen sCap n : Nat} {news : List Value}
    (hnew : Src P t2 e i.size w vx n news) (hg : sLen + n ≤ sCap)
    (hst : ∀ a, base = some a → (storeCells (a.add (sLen * i.size)) news).run P w = .ok () w') (hno : base = none → w' = w) :
    (Builtin.append_ #[t, t2] ty #[.slice base sLen sCap, vx]).run P w = .ok (.slice base (sLen + n) sCap) w' := by
  rcases hnew with ⟨⟨e2, h2⟩ | h2, hlen, hnew⟩ | ⟨k, j, i', zv, h2, rfl, hm, hi', hz', hb, hzs, rfl⟩
  · cases base with
    | none => simp [Builtin.append_, run_underlying ht, run_underlying h2, sizeOf, typeInfo, hi, hlen, hg, hnew, hno rfl]
    | some a => simp [Builtin.append_, run_underlying ht, run_underlying h2, sizeOf, typeInfo, hi, hlen, hg, hnew, hst a rfl]
  · cases base with
    | none => simp [Builtin.append_, run_underlying ht, run_underlying h2, sizeOf, typeInfo, hi, hlen, hg, hnew, hno rfl]
    | some a => simp [Builtin.append_, run_underlying ht, run_underlying h2, sizeOf, typeInfo, hi, hlen, hg, hnew, hst a rfl]
  · rw [hi] at hi'; cases hi'
    have hw := wrap_small hm
    have h0 : ¬ ((n : Int) < 0) := by omega
    have h48 : ¬ (281474976710656 < (n : Int) * (i.bytes : Int)) := small_bytes hm hb
    rcases Nat.eq_zero_or_pos (n * i.size) with h1 | h1
    · have hzc : Builtin.zeroCells zv.cells n = #[] := zc_nil (by rw [hzs]; exact h1)
      rw [hzc] at hst
      cases base with
      | none => simp [Builtin.append_, run_underlying ht, run_underlying h2, asInt, asIntOf, hw, h0, h48, sizeOf, typeInfo, hi, hg, h1, hno rfl]
      | some a => simp [Builtin.append_, run_underlying ht, run_underlying h2, asInt, asIntOf, hw, h0, h48, sizeOf, typeInfo, hi, hg, h1, hst a rfl]
    · have h1 : ¬ (n * i.size = 0) := by omega
      cases base with
      | none => simp [Builtin.append_, run_underlying ht, run_underlying h2, asInt, asIntOf, hw, h0, h48, sizeOf, typeInfo, zeroValue, hi, hz', hg, h1, hno rfl]
      | some a => simp [Builtin.append_, run_underlying ht, run_underlying h2, asInt, asIntOf, hw, h0, h48, sizeOf, typeInfo, zeroValue, hi, hz', hg, h1, hst a rfl]

end

theorem HR.reborn {W0 : World} {β : Beta} {h h' : T O} {n : Nat} {w w' : World} (H : HR W0 β h n w) {id : Nat} {o0 o1 : O} {b b1 : Blk} (ho : h.get id = some o0) (hb : β id = some b) (hblk : b1.blk = b.blk)
    (hg : ∀ j, h'.get j = if j = n then some o1 else if j = id then none else h.get j) (hw : ∀ k, k ≠ b.blk → w'.heap[k]? = w.heap[k]?) (hs : w'.heap.size = w.heap.size)
    (hbel : Below W0.heap.size w w') (hob : ObjR (upd β n b1) b1 o1 w'.heap[b.blk]?) (hro : roO o0 = false := by rfl) : HR W0 (upd β n b1) h' (n + 1) w' := by
  have hfree : β n = none := H.free (Nat.le_refl n)
  have hdb := H.dom id b hb
  have hold : ∀ i o bi, h'.get i = some o → upd β n b1 i = some bi → i ≠ n → h.get i = some o ∧ β i = some bi ∧ i ≠ id := by
    intro i o bi h1 h2 hi
    rw [hg, if_neg hi] at h1
    by_cases e : i = id
    · rw [if_pos e] at h1; cases h1
    · rw [if_neg e] at h1
      exact ⟨h1, by simpa [upd, hi] using h2, e⟩
  refine ⟨fun i o' b' h1 h2 => ?_, fun i j oi oj bi bj h1 h2 h3 h4 e => ?_, fun i b' h2 => ?_, H.below.trans hbel, H.laid, fun j hj => by rw [hg, if_neg (by omega), if_neg (by omega)]; exact H.above j (by omega), fun i o' b' h1 hr h2 => ?_⟩
  · by_cases e : i = n
    · subst e
      rw [upd_self] at h2; cases h2
      rw [hg, if_pos rfl] at h1; cases h1
      rw [hblk]; exact hob
    · obtain ⟨a1, a2, a3⟩ := hold i o' b' h1 h2 e
      have : b'.blk ≠ b.blk := fun eb => a3 (H.inj i id o' o0 b' b a1 ho a2 hb eb)
      rw [hw _ this]
      exact (H.obj i o' b' a1 a2).mono (upd_le hfree)
  · by_cases ei : i = n <;> by_cases ej : j = n
    · rw [ei, ej]
    · subst ei
      rw [upd_self] at h3; cases h3
      obtain ⟨a1, a2, a3⟩ := hold j oj bj h2 h4 ej
      exact absurd (H.inj j id oj o0 bj b a1 ho a2 hb (by rw [← e, hblk])) a3
    · subst ej
      rw [upd_self] at h4; cases h4
      obtain ⟨a1, a2, a3⟩ := hold i oi bi h1 h3 ei
      exact absurd (H.inj i id oi o0 bi b a1 ho a2 hb (by rw [e, hblk])) a3
    · obtain ⟨a1, a2, a3⟩ := hold i oi bi h1 h3 ei
      obtain ⟨c1, c2, c3⟩ := hold j oj bj h2 h4 ej
      exact H.inj i j oi oj bi bj a1 c1 a2 c2 e
  · by_cases e : i = n
    · subst e
      rw [upd_self] at h2; cases h2
      exact ⟨by omega, by rw [hblk, hs]; exact hdb.2⟩
    · obtain ⟨a, d⟩ := H.dom i b' (by simpa [upd, e] using h2)
      exact ⟨by omega, by omega⟩
  · by_cases e : i = n
    · subst e
      rw [upd_self] at h2; cases h2
      rw [hblk]; exact H.own id o0 b ho hro hb
    · obtain ⟨a1, a2, a3⟩ := hold i o' b' h1 h2 e
      exact H.own i o' b' a1 hr a2

theorem growK_ok {h : T O} {n esz nd : Nat} {l : List V} {k : Kv} {r : Rz} (e : growK h n esz l nd k = .ok r) :
    nd ≤ 1000000 ∧ ∃ c h', k (.slice n 0 nd false 0 nd) h' (n + 1) = .ok r ∧ (∀ j, c.get j = l[j]?) ∧ ∀ j, h'.get j = if j = n then some (.cells c l.length esz) else h.get j := by
  replace e := need_ok e; obtain ⟨h6, e⟩ := e
  refine ⟨Nat.le_of_ble_eq_true h6, ?_⟩
  replace e := blockK_ok e; obtain ⟨c, e, hc⟩ := e
  replace e := setK_ok e; obtain ⟨h', e, hg⟩ := e
  rw [fNat_eq] at e
  exact ⟨c, h', e, hc, hg⟩

/-- the world behind a row that has grown -/
theorem grow_HR {W0 : World} {β : Beta} {h h' : T O} {n : Nat} {w : World} (H : HR W0 β h n w) {c : T V} {l : List V} {esz nd cap : Nat} (hc : ∀ j, c.get j = l[j]?)
    (hg : ∀ j, h'.get j = if j = n then some (.cells c l.length esz) else h.get j) {us : List Value} (hus : concL β l = some us) {C : Array Value} {el : TypeId}
    (hC : ∀ (i : Nat) v, us[i]? = some v → C[i]? = some v) (h1 : l.length ≤ cap * esz) (h2 : cap * esz ≤ C.size) (h3 : nd ≤ cap) :
    ∃ β', HR W0 β' h' (n + 1) (w.drew.alloc (.cells C el)) ∧ More β h n β' h' (n + 1) ∧ conc β' (.slice n 0 nd false 0 nd) = some (.slice (some ⟨w.heap.size, 0, none⟩) nd cap) := by
  have hfree : β n = none := H.free (Nat.le_refl n)
  refine ⟨upd β n ⟨w.heap.size, 0, cap⟩, ?_, ext_new hfree hg, ?_⟩
  · refine (H.drew.new hg).alloc (o := .cells c l.length esz) (by omega) hfree (by rw [hg, if_pos rfl]) rfl ?_
    exact objR_new (concL_mono (upd_le hfree) _ _ hus) hc hC h1 h2 (.inr rfl)
  · simp [conc, upd_self, capOf, h3]

theorem allOne_app : ∀ {a b : List V}, allOne (a ++ b) = true → allOne b = true
  | [], _, h => h
  | v :: a, b, h => by
    replace h : and (oneV v) (allOne (a ++ b)) = true := h
    exact allOne_app (Bool.and_eq_true_iff.1 h).2

def AppSpec (P : Program) (h : T O) (n : Nat) (t t2 : Nat) (s x v : V) (h' : T O) (n' : Nat) : Prop :=
  ∀ W0 β w, HR W0 β h n w → ∀ vs vx, conc β s = some vs → conc β x = some vx → ∀ ty, ∃ val w' β', (Builtin.append_ #[t, t2] ty #[vs, vx]).run P w = .ok val w' ∧
    conc β' v = some val ∧ HR W0 β' h' n' w' ∧ More β h n β' h' n'

theorem get_app {us ws : List Value} {zs : Array Value} (i : Nat) (v : Value) (h : (us ++ ws)[i]? = some v) : (us.toArray ++ ws.toArray ++ zs)[i]? = some v := by
  have hi : i < (us ++ ws).length := by
    rcases Nat.lt_or_ge i (us ++ ws).length with h' | h'
    · exact h'
    · rw [List.getElem?_eq_none h'] at h; cases h
  rw [Array.getElem?_append, if_pos (by simpa using hi)]
  simpa using h

section
variable {P : Program} {tys : T TI} (HT : TysR P tys)

/-- the row grows into a new block -/
theorem grow_ok {t t2 e : Nat} {te : TI} (ht : P.underlying t = some (.slice e)) (hte : TIok P e te)
    {h0 h h' : T O} {n : Nat} {c : T V} {old l : List V} {m nd len : Nat} {x : V} (hsrc : SrcSpec P h0 t2 e te.size x l m) (hnd : nd = len + m) (h6 : nd ≤ 1000000) (hc : ∀ j, c.get j = (old ++ l)[j]?)
    (hg : ∀ j, h'.get j = if j = n then some (.cells c (old ++ l).length te.size) else h.get j) (hol : old.length = len * te.size)
    {W0 : World} {β : Beta} {w : World} (H0 : HR W0 β h0 n w) (H : HR W0 β h n w) {base : Option Addr} {sCap : Nat} {olds : List Value} (ho : concL β old = some olds)
    (hold : (Builtin.firstCells te.size len (.slice base len sCap)).run P w.drew = .ok olds.toArray w.drew) (hcap : sCap < nd) {vx : Value} (hx : conc β x = some vx) (ty : TypeId) :
    ∃ val w' β', (Builtin.append_ #[t, t2] ty #[.slice base len sCap, vx]).run P w = .ok val w' ∧ conc β' (.slice n 0 nd false 0 nd) = some val ∧ HR W0 β' h' (n + 1) w' ∧ More β h n β' h' (n + 1) := by
  subst hnd
  obtain ⟨i, hi, hs, hb, z, hz, hzc, _, _, hzl⟩ := hte.info
  obtain ⟨us, hus, hnew⟩ := hsrc.2 W0 β n _ H0.drew vx hx
  have hsm := hte.small
  have hrun := run_grow (P := P) (w := w) (ty := ty) ht hi hz (base := base) (sLen := len) (sCap := sCap) (by rw [hs]; exact hold) (by rw [hs]; exact hnew) hcap h6 (by omega)
  have hge := grownCap_ge w (len + m) sCap e
  have hzs : z.cells.size = te.size := by
    have := concL_len hzc
    rw [hzl] at this
    simpa using this
  have hal := concL_app ho hus
  have hl1 := concL_len ho
  have hl2 := concL_len hus
  have hmul : (len + m) * te.size = len * te.size + m * te.size := Nat.add_mul _ _ _
  have hsz : (olds.toArray ++ us.toArray ++ Builtin.zeroCells z.cells (grownCap w (len + m) sCap e - (len + m))).size = grownCap w (len + m) sCap e * te.size := by
    simp only [Array.size_append, List.size_toArray, size_zeroCells, hzs, hl1, hl2, hol, hsrc.1]
    rw [← Nat.add_mul, ← Nat.add_mul]
    congr 1; omega
  obtain ⟨β', h3, h4, h5⟩ := grow_HR H hc hg hal (cap := grownCap w (len + m) sCap e) (nd := len + m) (el := e)
    (C := olds.toArray ++ us.toArray ++ Builtin.zeroCells z.cells (grownCap w (len + m) sCap e - (len + m))) (fun i v hv => get_app i v hv)
    (by rw [List.length_append, hol, hsrc.1, ← hmul]; exact Nat.mul_le_mul_right _ hge) (by rw [hsz]; exact Nat.le_refl _) hge
  exact ⟨_, _, β', hrun, h5, h3, h4⟩

/-- behind a row that may lie in the old one's place -/
theorem app2_ok {t t2 e : Nat} {te : TI} (ht : P.underlying t = some (.slice e)) (hte : TIok P e te)
    {h : T O} {n id off kk : Nat} {old l : List V} {m nd len : Nat} {x : V} {k : Kv} {r : Rz} (hsrc : SrcSpec P h t2 e te.size x l m) (hnd : nd = len + m) (hol : old.length = len * te.size)
    (e0 : app2 h n te.size id off kk (old ++ l) nd k = .ok r) :
    ∃ v h' n', k v h' n' = .ok r ∧ ∀ W0 β w, HR W0 β h n w → ∀ b, β id = some b → ∀ off1 cap1, (off = kk * te.size → len + m ≤ cap1 → off1 + cap1 * te.size ≤ b.room * te.size) → ∀ olds, concL β old = some olds →
      (∀ (j : Nat) v, olds[j]? = some v → w.cell? ⟨b.blk, b.off + off1 + j, none⟩ = some v) → ∀ vx, conc β x = some vx → ∀ ty,
      ∃ val w' β', (Builtin.append_ #[t, t2] ty #[.slice (some ⟨b.blk, b.off + off1, none⟩) len cap1, vx]).run P w = .ok val w' ∧ conc β' v = some val ∧ HR W0 β' h' n' w' ∧ More β h n β' h' n' := by
  replace e0 := om_ok e0; obtain ⟨o, ho, e0⟩ := e0
  replace e0 := oCells_ok e0; obtain ⟨t0, m0, es, rfl, e0⟩ := e0
  replace e0 := need_ok e0; obtain ⟨hc, e0⟩ := e0
  have hc := Bool.and_eq_true_iff.1 hc
  have hoff := beq_of (Bool.and_eq_true_iff.1 hc.1).2
  have hone := allOne_app hc.2
  have hes := beq_of (Bool.and_eq_true_iff.1 hc.1).1
  subst hes
  replace e0 := setK_ok e0; obtain ⟨h1, e0, hg1⟩ := e0
  replace e0 := growK_ok e0; obtain ⟨h6, c, h', e0, hcc, hg⟩ := e0
  refine ⟨_, h', n + 1, e0, fun W0 β w H b hb off1 cap1 hroom olds ho' hcell vx hx ty => ?_⟩
  have H1 : HR W0 β h1 n w := H.drop hg1
  have hM : More β h n β h1 n := ext_put hb hg1
  rcases Nat.lt_or_ge cap1 nd with hcap | hcap
  · have hold : (Builtin.firstCells te.size len (.slice (some ⟨b.blk, b.off + off1, none⟩) len cap1)).run P w.drew = .ok olds.toArray w.drew :=
      run_firstCells_some _ te.size len _ _ _ olds (by rw [concL_len ho', hol]) fun j v hj => by rw [add_none]; exact hcell j v hj
    obtain ⟨val, w', β', a1, a2, a3, a4⟩ := grow_ok ht hte hsrc hnd h6 hcc hg hol H H1 ho' hold hcap hx ty
    exact ⟨val, w', β', a1, a2, a3, hM.trans a4⟩
  · subst hnd
    obtain ⟨i, hi, hs, hb2, _⟩ := hte.info
    obtain ⟨us, hus, hnew⟩ := hsrc.2 W0 β n w H vx hx
    have hl1 := concL_len ho'
    have hl2 := concL_len hus
    have hr := hroom hoff hcap
    obtain ⟨cs, elem, frz, g1, g2, g3, g4, g5⟩ := H.obj id _ b ho hb
    have hmul : (len + m) * te.size ≤ cap1 * te.size := Nat.mul_le_mul_right _ hcap
    rw [Nat.add_mul] at hmul
    have hsl := hsrc.1
    obtain ⟨c', hc1, hc2, hc3⟩ := setCells_at us (b.off + off1 + len * te.size) w cs g1
    have hstore : (storeCells ⟨b.blk, b.off + off1 + len * te.size, none⟩ us).run P w = .ok () (w.setCells b.blk (b.off + off1 + len * te.size) us) := by
      have := run_storeCells_cells (P := P) b.blk (b.off + off1 + len * te.size) us 0 w (fun j hj => by
          simp only [World.cell?, g1, Nat.add_zero]
          rw [Array.getElem?_eq_getElem (by omega)]; rfl) (fun j hj => by
          have := g4 (b.off + off1 + len * te.size + j) (by omega) (by omega)
          simp only [World.frozen?, g1, Nat.add_zero]
          simp only [Bool.and_eq_false_iff, decide_eq_false_iff_not]
          omega) (allOne_ok hone hus)
      simpa using this
    have hrun := run_room (P := P) (ty := ty) ht hi (base := some ⟨b.blk, b.off + off1, none⟩) (sLen := len) (sCap := cap1) (w' := w.setCells b.blk (b.off + off1 + len * te.size) us) (by rw [hs]; exact hnew) hcap
      (fun a ha => by cases ha; rw [hs, add_none]; exact hstore) (fun hn => by cases hn)
    have hfree : β n = none := H.free (Nat.le_refl n)
    have hne : n ≠ id := by have := (H.dom id b hb).1; omega
    have hg' : ∀ j, h'.get j = if j = n then some (.cells c (old ++ l).length te.size) else if j = id then none else h.get j := fun j => by rw [hg, hg1]
    refine ⟨_, _, upd β n ⟨b.blk, b.off + off1, cap1⟩, hrun, ?_, H.reborn ho hb rfl hg' (fun k hk => setCells_other hk us _ w) (setCells_size us _ w) (setCells_below (H.own id _ b ho rfl hb) us _ w) ?_, ?_⟩
    · simp [conc, upd_self, capOf, hcap]
    · refine ⟨c', elem, frz, hc1, ?_, ?_, fun j hj1 hj2 => g4 j (by simp only at hj1 hj2 ⊢; omega) (by simp only at hj1 hj2 ⊢; omega), fun i v hi hv => ?_⟩
      · simp only [List.length_append]; omega
      · simp only; omega
      · have hle := upd_le (b := ⟨b.blk, b.off + off1, cap1⟩) hfree
        rw [hcc] at hv
        have hal := concL_app ho' hus
        obtain ⟨y, hy, hcy⟩ := concL_get i hal hv
        refine ⟨y, ?_, conc_mono hle _ _ hcy⟩
        simp only at hi ⊢
        rw [hc3]
        rw [List.getElem?_append] at hy
        simp only [List.length_append] at hi
        split at hy
        · rename_i hlt
          rw [if_neg (by omega)]
          have := hcell i y hy
          simpa [World.cell?, g1] using this
        · rename_i hlt
          rw [if_pos (by omega), show b.off + off1 + i - (b.off + off1 + len * te.size) = i - olds.length by omega]
          exact hy
    · exact hM.trans (ext_new hfree hg)

include HT in
theorem appendK_ok {t t2 : Nat} {h : T O} {n : Nat} {s x : V} {k : Kv} {r : Rz} (h2 : srcTy tys t2 x = true) (e0 : appendK tys h n t s x k = .ok r) :
    ∃ v h' n', k v h' n' = .ok r ∧ AppSpec P h n t t2 s x v h' n' := by
  replace e0 := sliceTy_ok e0; obtain ⟨ti, e, te, hti, hk, hte, e0⟩ := e0
  have ht := (HT _ _ hti).slice hk
  replace hte := HT _ _ hte
  replace e0 := srcK_ok HT h2 hte e0; obtain ⟨l, m, e0, hsrc⟩ := e0
  obtain ⟨i, hi, hs, hb2, _⟩ := hte.info
  unfold app0 at e0
  split at e0
  · rename_i id off len ex kk lo
    rw [fNat_eq] at e0
    rcases rec_ok e0 with ⟨hle, e0⟩ | ⟨hle, e0⟩
    · have hle : len + m ≤ lo := Nat.le_of_ble_eq_true hle
      rcases rec_ok e0 with ⟨hm, e0⟩ | ⟨hm, e0⟩
      · have hm := beq_of hm
        subst hm
        refine ⟨_, _, _, e0, fun W0 β w H vs vx hv hx ty => ?_⟩
        obtain ⟨b, hb, hlo, rfl⟩ := conc_slice hv
        obtain ⟨us, hus, hnew⟩ := hsrc.2 W0 β n w H vx hx
        have hl := concL_len hus
        have hus0 : us = [] := by
          have : us.length = 0 := by rw [hl, hsrc.1]; simp
          exact List.length_eq_zero_iff.1 this
        subst hus0
        have hrun := run_room (P := P) (ty := ty) ht hi (base := some ⟨b.blk, b.off + off, none⟩) (sLen := len) (sCap := capOf b ex kk) (w' := w) (by rw [hs]; exact hnew) (by omega)
          (fun a ha => by simp [storeCells]) (fun hn => by cases hn)
        exact ⟨_, w, β, hrun, by simp [conc, hb, hlo], H, More.refl _ _ _⟩
      · replace e0 := storeN_ok (P := P) e0; obtain ⟨h', e0, hst⟩ := e0
        refine ⟨_, _, _, e0, fun W0 β w H vs vx hv hx ty => ?_⟩
        obtain ⟨b, hb, hlo, rfl⟩ := conc_slice hv
        obtain ⟨us, hus, hnew⟩ := hsrc.2 W0 β n w H vx hx
        obtain ⟨h3, h4, h5⟩ := hst W0 β n w H b hb us hus
        have h3 : (storeCells ⟨b.blk, b.off + off + len * te.size, none⟩ us).run P w = .ok () (w.setCells b.blk (b.off + (off + len * te.size)) us) := by rw [Nat.add_assoc]; exact h3
        have hrun := run_room (P := P) (ty := ty) ht hi (base := some ⟨b.blk, b.off + off, none⟩) (sLen := len) (sCap := capOf b ex kk) (by rw [hs]; exact hnew) (by omega)
          (fun a ha => by cases ha; rw [hs, add_none]; exact h3) (fun hn => by cases hn)
        exact ⟨_, _, β, hrun, by simp [conc, hb, hlo], h4, h5⟩
    · have hgt : lo < len + m := by
        rcases Nat.lt_or_ge lo (len + m) with h | h
        · exact h
        · have := Nat.ble_eq_true_of_le h
          exact absurd (hle.symm.trans this) (by decide)
      replace e0 := cellsAt_ok e0; obtain ⟨old, e0, hol, hcells⟩ := e0
      rw [spine_eq] at e0
      rcases rec_ok e0 with ⟨hex, e0⟩ | ⟨hex, e0⟩
      · subst hex
        replace e0 := need_ok e0; obtain ⟨hkl, e0⟩ := e0
        have hkl : kk ≤ lo := Nat.le_of_ble_eq_true hkl
        replace e0 := growK_ok e0; obtain ⟨h6, c, h', e0, hcc, hg⟩ := e0
        refine ⟨_, _, _, e0, fun W0 β w H vs vx hv hx ty => ?_⟩
        obtain ⟨b, hb, hlo, rfl⟩ := conc_slice hv
        obtain ⟨olds, ho', hlen, hcell⟩ := hcells W0 β n w H b hb
        have hold : (Builtin.firstCells te.size len (.slice (some ⟨b.blk, b.off + off, none⟩) len (capOf b true kk))).run P w.drew = .ok olds.toArray w.drew :=
          run_firstCells_some _ te.size len _ _ _ olds (by rw [concL_len ho', hol]; rfl) fun j v hj => by rw [add_none]; exact hcell j v hj
        exact grow_ok ht hte hsrc rfl h6 hcc hg hol H H ho' hold (by simp only [capOf, if_true]; omega) hx ty
      · subst hex
        replace e0 := app2_ok ht hte hsrc rfl hol e0; obtain ⟨v, h', n', e0, hsp⟩ := e0
        refine ⟨_, _, _, e0, fun W0 β w H vs vx hv hx ty => ?_⟩
        obtain ⟨b, hb, hlo, rfl⟩ := conc_slice hv
        obtain ⟨olds, ho', hlen, hcell⟩ := hcells W0 β n w H b hb
        refine hsp W0 β w H b hb off (capOf b false kk) (fun hoff hle => ?_) olds ho' hcell vx hx ty
        simp only [capOf, Bool.false_eq_true, if_false] at hle ⊢
        rw [hoff, ← Nat.add_mul]
        exact Nat.mul_le_mul_right _ (by omega)
  · rename_i id off a esz kk
    replace e0 := need_ok e0; obtain ⟨hes, e0⟩ := e0
    have hes := beq_of hes
    subst hes
    rcases rec_ok e0 with ⟨hm, e0⟩ | ⟨hm, e0⟩
    · have hm := beq_of hm
      subst hm
      refine ⟨_, _, _, e0, fun W0 β w H vs vx hv hx ty => ?_⟩
      have hv' := hv
      simp only [conc, Option.map_eq_some_iff] at hv
      obtain ⟨b, hb, rfl⟩ := hv
      obtain ⟨us, hus, hnew⟩ := hsrc.2 W0 β n w H vx hx
      have hl := concL_len hus
      have hus0 : us = [] := by
        have : us.length = 0 := by rw [hl, hsrc.1]; simp
        exact List.length_eq_zero_iff.1 this
      subst hus0
      have hrun := run_room (P := P) (ty := ty) ht hi (base := some ⟨b.blk, b.off + (if b.room - kk = a then off else off + a * te.size), none⟩) (sLen := 0) (sCap := b.room - kk - a) (w' := w) (by rw [hs]; exact hnew) (by omega)
        (fun a ha => by simp [storeCells]) (fun hn => by cases hn)
      exact ⟨_, w, β, hrun, hv', H, More.refl _ _ _⟩
    · have hm0 : 0 < m := by
        rcases Nat.eq_zero_or_pos m with h | h
        · subst h; cases hm
        · exact h
      have hsrc' : SrcSpec P h t2 _ te.size x l m := hsrc
      replace e0 := app2_ok (old := []) (len := 0) ht hte hsrc' (by simp) (by simp) e0; obtain ⟨v, h', n', e0, hsp⟩ := e0
      refine ⟨_, _, _, e0, fun W0 β w H vs vx hv hx ty => ?_⟩
      simp only [conc, Option.map_eq_some_iff] at hv
      obtain ⟨b, hb, rfl⟩ := hv
      refine hsp W0 β w H b hb (if b.room - kk = a then off else off + a * te.size) (b.room - kk - a) (fun hoff hle => ?_) [] rfl (fun j v hj => by simp at hj) vx hx ty
      rw [if_neg (by omega), hoff, ← Nat.add_mul, ← Nat.add_mul]
      exact Nat.mul_le_mul_right _ (by omega)
  · split at e0
    · rename_i sl sc
      replace e0 := need_ok e0; obtain ⟨hz, e0⟩ := e0
      have hz := Bool.and_eq_true_iff.1 hz
      have hz1 := beq_of hz.1
      have hz2 := beq_of hz.2
      subst hz1; subst hz2
      rcases rec_ok e0 with ⟨hm, e0⟩ | ⟨hm, e0⟩
      · have hm := beq_of hm
        subst hm
        refine ⟨_, _, _, e0, fun W0 β w H vs vx hv hx ty => ?_⟩
        have hv' := hv
        simp only [conc] at hv
        split at hv <;> cases hv
        obtain ⟨us, hus, hnew⟩ := hsrc.2 W0 β n w H vx hx
        have hrun := run_room (P := P) (ty := ty) ht hi (base := none) (sLen := 0) (sCap := 0) (w' := w) (by rw [hs]; exact hnew) (by omega)
          (fun a ha => by cases ha) (fun hn => rfl)
        exact ⟨_, w, β, hrun, hv', H, More.refl _ _ _⟩
      · have hm0 : 0 < m := by
          rcases Nat.eq_zero_or_pos m with h | h
          · subst h; cases hm
          · exact h
        replace e0 := growK_ok e0; obtain ⟨h6, c, h', e0, hcc, hg⟩ := e0
        refine ⟨_, _, _, e0, fun W0 β w H vs vx hv hx ty => ?_⟩
        simp only [conc] at hv
        split at hv <;> cases hv
        exact grow_ok (old := []) (len := 0) ht hte hsrc (by simp) h6 hcc hg (by simp) H H rfl (run_firstCells_none _ _ _ _ _) hm0 hx ty
    · exact (bad_ne e0).elim
end

end Go.Mir
