/- The number of the function that lays the listed variables. No statement of the program is proved here. -/
import Derived.Test.YtojkinikdcelbaaGreatDoorRows
import Derived.LaidByTextLater
import Derived.SevenTiedAt
set_option linter.unusedSimpArgs false
set_option linter.unusedVariables false
set_option linter.defProp false
namespace Go.Proofs.YtojkinikdcelbaaGreatDoor
open Go
def laidE : List (String × DataW Unit) := [("unicode/utf8.acceptRanges", Rows.laid_unicode_utf8_acceptRanges), ("strings.asciiSpace", Rows.laid_strings_asciiSpace), ("unicode.White_Space", Rows.laid_unicode_White_Space), ("unicode.asciiFold", Rows.laid_unicode_asciiFold), ("unicode.caseOrbit", Rows.laid_unicode_caseOrbit), ("internal/strconv.uint64pow10", Rows.laid_internal_strconv_uint64pow10), ("math/bits.deBruijn32tab", Rows.laid_math_bits_deBruijn32tab), ("math/bits.deBruijn64tab", Rows.laid_math_bits_deBruijn64tab)]
/- places, each once: asked by numbers -/
noncomputable def keyOf (x : MemPlace) : Nat := match x with | .cell b off => Nat.mul 2 (Nat.add (Nat.mul b 65536) off) | .map b => Nat.succ (Nat.mul 2 b)
noncomputable def small (x : MemPlace) : Bool := match x with | .cell _ off => Nat.ble off 65535 | .map _ => true
noncomputable def inN (l : List Nat) (a : Nat) : Bool := List.rec (motive := fun _ => Bool) false (fun b _ ih => Bool.rec ih true (Nat.beq a b)) l
noncomputable def onceN (l : List Nat) : Bool := List.rec (motive := fun _ => Bool) true (fun a l ih => Bool.rec ih false (inN l a)) l
noncomputable def forceN (n : Nat) (k : Nat → Bool) : Bool := Nat.rec (motive := fun _ => Bool) (k 0) (fun m _ => k (Nat.succ m)) n
noncomputable def forceL (l : List Nat) (k : List Nat → Bool) : Bool :=
  List.rec (motive := fun _ => (List Nat → Bool) → Bool) (fun k => k []) (fun a _ ih k => forceN a fun a => ih fun l => k (a :: l)) l k
theorem forceN_eq (n : Nat) (k : Nat → Bool) : forceN n k = k n := by cases n <;> rfl
theorem forceL_eq : ∀ (l : List Nat) (k : List Nat → Bool), forceL l k = k l
  | [], _ => rfl
  | a :: l, k => by
    show forceN a (fun a => forceL l fun l => k (a :: l)) = _
    rw [forceN_eq, forceL_eq l]
noncomputable def cls (r a : Nat) : Bool := Nat.beq (Nat.mod (Nat.div a 2) 64) r
noncomputable def pickL (r : Nat) (l : List Nat) (k : List Nat → Bool) : Bool :=
  List.rec (motive := fun _ => (List Nat → Bool) → Bool) (fun k => k []) (fun a _ ih k => Bool.rec (ih k) (ih fun l => k (a :: l)) (cls r a)) l k
theorem pickL_eq (r : Nat) : ∀ (l : List Nat) (k : List Nat → Bool), pickL r l k = k (l.filter (cls r))
  | [], _ => rfl
  | a :: l, k => by
    show (Bool.rec (pickL r l k) (pickL r l fun l => k (a :: l)) (cls r a) : Bool) = _
    rw [List.filter_cons]
    cases h : cls r a with
    | true => rw [if_pos rfl]; exact pickL_eq r l _
    | false => rw [if_neg (by decide)]; exact pickL_eq r l _
noncomputable def onceR (l : List Nat) : Bool := (List.range 64).all fun r => pickL r l onceN
noncomputable def onceB (l : List MemPlace) : Bool := and (l.all small) (forceL (l.map keyOf) onceR)
theorem inN_of : ∀ {l : List Nat} {a : Nat}, a ∈ l → inN l a = true
  | b :: l, a, h => by
    show (Bool.rec (inN l a) true (Nat.beq a b) : Bool) = true
    cases hb : Nat.beq a b with
    | true => rfl
    | false =>
      cases h with
      | head => rw [Nat.beq_refl] at hb; cases hb
      | tail _ h => exact inN_of h
theorem onceN_ok : ∀ {l : List Nat}, onceN l = true → l.Nodup
  | [], _ => List.nodup_nil
  | a :: l, h => by
    replace h : (Bool.rec (onceN l) false (inN l a) : Bool) = true := h
    cases ha : inN l a with
    | true => rw [ha] at h; cases h
    | false =>
      rw [ha] at h
      exact List.nodup_cons.2 ⟨fun hm => (by rw [inN_of hm] at ha; cases ha), onceN_ok h⟩
theorem onceR_go : ∀ {l : List Nat}, (∀ r, r < 64 → (l.filter (cls r)).Nodup) → l.Nodup
  | [], _ => List.nodup_nil
  | a :: l, h => by
    have hr : Nat.mod (Nat.div a 2) 64 < 64 := Nat.mod_lt _ (by decide)
    have hc : cls (Nat.mod (Nat.div a 2) 64) a = true := Nat.beq_refl _
    refine List.nodup_cons.2 ⟨fun hm => ?_, onceR_go fun r hr => ?_⟩
    · have h1 := h _ hr
      rw [List.filter_cons, if_pos hc] at h1
      exact (List.nodup_cons.1 h1).1 (List.mem_filter.2 ⟨hm, hc⟩)
    · have h1 := h r hr
      rw [List.filter_cons] at h1
      split at h1
      · exact (List.nodup_cons.1 h1).2
      · exact h1
theorem onceR_ok {l : List Nat} (h : onceR l = true) : l.Nodup := by
  refine onceR_go fun r hr => ?_
  have := List.all_eq_true.1 h r (List.mem_range.2 hr)
  rw [pickL_eq] at this
  exact onceN_ok this
theorem keyOf_inj {x y : MemPlace} (hx : small x = true) (hy : small y = true) (h : keyOf x = keyOf y) : x = y := by
  cases x <;> cases y <;> simp only [keyOf, small] at hx hy h
  · have h1 := Nat.le_of_ble_eq_true hx
    have h2 := Nat.le_of_ble_eq_true hy
    simp only [Nat.mul_eq, Nat.add_eq] at h
    congr 1 <;> omega
  · simp only [Nat.mul_eq, Nat.add_eq] at h; omega
  · simp only [Nat.mul_eq, Nat.add_eq] at h; omega
  · simp only [Nat.mul_eq] at h; congr 1; omega
theorem onceB_go : ∀ {l : List MemPlace}, l.all small = true → (l.map keyOf).Nodup → l.Nodup
  | [], _, _ => List.nodup_nil
  | a :: l, hs, hn => by
    simp only [List.all_cons, Bool.and_eq_true] at hs
    rw [List.map_cons, List.nodup_cons] at hn
    exact List.nodup_cons.2 ⟨fun hm => hn.1 (List.mem_map.2 ⟨a, hm, rfl⟩), onceB_go hs.2 hn.2⟩
theorem onceB_ok {l : List MemPlace} (h : onceB l = true) : l.Nodup := by
  have h := Bool.and_eq_true_iff.1 h
  rw [forceL_eq] at h
  exact onceB_go h.1 (onceR_ok h.2)
/- rows of places, block by block -/
noncomputable def onceL (l : List Nat) : List Nat := List.rec (motive := fun _ => List Nat) [] (fun a _ ih => Bool.rec (a :: ih) ih (inN ih a)) l
noncomputable def plainV (v : Value) : Bool := match v with | .iface _ _ => false | _ => true
noncomputable def blockOk (w : World) (b : Nat) : Bool := match w.heap[b]? with | some (.cells c _ (0, 0)) => c.toList.all plainV | _ => false
noncomputable def isCell (x : MemPlace) : Bool := match x with | .cell _ _ => true | .map _ => false
noncomputable def rowsB (w : World) (ps : List MemPlace) : Bool := and (ps.all isCell) (forceL (ps.map MemPlace.block) fun bs => (onceL bs).all (blockOk w))
theorem inN_ok : ∀ {l : List Nat} {a : Nat}, inN l a = true → a ∈ l
  | [], a, h => by cases h
  | b :: l, a, h => by
    replace h : (Bool.rec (inN l a) true (Nat.beq a b) : Bool) = true := h
    cases hb : Nat.beq a b with
    | true => rw [Nat.eq_of_beq_eq_true hb]; exact List.mem_cons_self
    | false => rw [hb] at h; exact List.mem_cons_of_mem _ (inN_ok h)
theorem onceL_mem : ∀ {l : List Nat} {a : Nat}, a ∈ l → a ∈ onceL l
  | b :: l, a, h => by
    show a ∈ (Bool.rec (b :: onceL l) (onceL l) (inN (onceL l) b) : List Nat)
    cases hb : inN (onceL l) b with
    | false =>
      cases h with
      | head => exact List.mem_cons_self
      | tail _ h => exact List.mem_cons_of_mem _ (onceL_mem h)
    | true =>
      cases h with
      | head => exact inN_ok hb
      | tail _ h => exact onceL_mem h
theorem rowsB_ok {P : Program} {w : World} {ps : List MemPlace} (h : rowsB w ps = true) : laidRowsB P w ps = true := by
  have h1 := Bool.and_eq_true_iff.1 h
  have h2 := h1.2
  rw [forceL_eq] at h2
  unfold laidRowsB
  rw [List.all_eq_true]
  intro x hx
  have h3 := List.all_eq_true.1 h1.1 x hx
  cases x with
  | map b => cases h3
  | cell b off =>
    have hb : blockOk w b = true := List.all_eq_true.1 h2 b (onceL_mem (List.mem_map.2 ⟨_, hx, rfl⟩))
    unfold blockOk at hb
    split at hb
    · rename_i c e hc
      simp only [hc, Bool.true_and, World.cell?]
      split
      · rename_i u v hv
        simp only [Option.isSome_none, Bool.false_eq_true, if_false] at hv
        have hm := List.all_eq_true.1 hb (.iface u v) (by
          have := Array.mem_of_getElem? hv
          exact Array.mem_def.1 this)
        cases hm
      · rfl
    · cases hb
end Go.Proofs.YtojkinikdcelbaaGreatDoor
namespace Go.Proofs.YtojkinikdcelbaaGreatDoor
open Go
theorem vid : varsId Tryz.prog = 670 := by kernel_rfl
end Go.Proofs.YtojkinikdcelbaaGreatDoor
