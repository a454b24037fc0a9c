/- The walk of CostMore: it returns true, case by case. Conditions of each case in its theorem. -/
import Derived.Test.YtbdjdkfjbbhoeaaW8
import Derived.Laws.AppendOwnNone
namespace Go.Proofs.Ytbdjdkfjbbhoeaa
open Go.RowKit

abbrev Lk (x0 : Nat) (v0 v1 v2 : Int) (d0 d1 d2 : Nat) : Array Value := #[.float .f64 x0, .int .i64 v0, .int .i64 v1, .int .i64 v2, .float .f64 d0, .float .f64 d1, .float .f64 d2]

set_option maxHeartbeats 2000000 in
theorem More_k1 (x0 : Nat) (v0 v1 v2 : Int) (d0 d1 d2 : Nat) (na ca nb cb : Nat) (a b : Option Addr) (w : World) (hm : 100 < na) :
    Calls Try.prog 5 #[.agg #[.float .f64 x0, .int .i64 v0, .int .i64 v1, .int .i64 v2, .float .f64 d0, .float .f64 d1, .float .f64 d2], .slice a na ca, .slice b nb cb] w fun e w' => e = .returned (.bool true) ∧ Below w.heap.size w w' := by
  have hd : decide (100 < (na : Int)) = true := by simp; omega
  go_enter Try.func5, Try.ntmps5
  go_wp2_with fail
  refine (known_calls _).mono ?_
  rintro e w1 ⟨rfl, hb⟩
  have hend : Below w.heap.size w w1 := ((Below.refl _ _).alloc (Nat.le_refl _) _).trans (hb.mono (by simp))
  have HE := Lib.hid hend
  clear hb hend
  go_wp2
  go_ret
  exact ⟨rfl, HE.out⟩

set_option maxHeartbeats 2000000 in
theorem More_k2 (x0 : Nat) (v0 v1 v2 : Int) (d0 d1 d2 : Nat) (na ca nb cb : Nat) (a b : Option Addr) (w : World) (hm : na ≤ 100) (hn : 100 < nb) :
    Calls Try.prog 5 #[.agg #[.float .f64 x0, .int .i64 v0, .int .i64 v1, .int .i64 v2, .float .f64 d0, .float .f64 d1, .float .f64 d2], .slice a na ca, .slice b nb cb] w fun e w' => e = .returned (.bool true) ∧ Below w.heap.size w w' := by
  have hd : decide (100 < (na : Int)) = false := by simp; omega
  have hd2 : decide (100 < (nb : Int)) = true := by simp; omega
  go_enter Try.func5, Try.ntmps5
  go_wp2_with fail
  refine (known_calls _).mono ?_
  rintro e w1 ⟨rfl, hb⟩
  have hend : Below w.heap.size w w1 := ((Below.refl _ _).alloc (Nat.le_refl _) _).trans (hb.mono (by simp))
  have HE := Lib.hid hend
  clear hb hend
  go_wp2
  go_ret
  exact ⟨rfl, HE.out⟩

set_option maxHeartbeats 2000000 in
theorem More_k3 (x0 : Nat) (v0 v1 v2 : Int) (d0 d1 d2 : Nat) (na ca nb cb : Nat) (a b : Option Addr) (w : World) (hm : na ≤ 100) (hn : nb ≤ 100)
    (h0 : (FloatKind.f64.format.order x0 0 == some .gt || FloatKind.f64.format.order x0 0 == some .eq) = false) :
    Calls Try.prog 5 #[.agg #[.float .f64 x0, .int .i64 v0, .int .i64 v1, .int .i64 v2, .float .f64 d0, .float .f64 d1, .float .f64 d2], .slice a na ca, .slice b nb cb] w fun e w' => e = .returned (.bool true) ∧ Below w.heap.size w w' := by
  have hd : decide (100 < (na : Int)) = false := by simp; omega
  have hd2 : decide (100 < (nb : Int)) = false := by simp; omega
  go_enter Try.func5, Try.ntmps5
  go_wp2_with fail
  refine (known_calls _).mono ?_
  rintro e w1 ⟨rfl, hb⟩
  have hend : Below w.heap.size w w1 := ((Below.refl _ _).alloc (Nat.le_refl _) _).trans (hb.mono (by simp))
  have HE := Lib.hid hend
  clear hb hend
  go_wp2
  go_ret
  exact ⟨rfl, HE.out⟩

set_option maxHeartbeats 2000000 in
theorem More_k4 (x0 : Nat) (v0 v1 v2 : Int) (d0 d1 d2 : Nat) (na ca nb cb : Nat) (a b : Option Addr) (w : World) (hm : na ≤ 100) (hn : nb ≤ 100)
    (h0 : (FloatKind.f64.format.order x0 0 == some .gt || FloatKind.f64.format.order x0 0 == some .eq) = true)
    (h1 : (FloatKind.f64.format.order x0 4832362400168542208 == some .lt || FloatKind.f64.format.order x0 4832362400168542208 == some .eq) = false) :
    Calls Try.prog 5 #[.agg #[.float .f64 x0, .int .i64 v0, .int .i64 v1, .int .i64 v2, .float .f64 d0, .float .f64 d1, .float .f64 d2], .slice a na ca, .slice b nb cb] w fun e w' => e = .returned (.bool true) ∧ Below w.heap.size w w' := by
  have hd : decide (100 < (na : Int)) = false := by simp; omega
  have hd2 : decide (100 < (nb : Int)) = false := by simp; omega
  go_enter Try.func5, Try.ntmps5
  go_wp2_with fail
  refine (known_calls _).mono ?_
  rintro e w1 ⟨rfl, hb⟩
  have hend : Below w.heap.size w w1 := ((Below.refl _ _).alloc (Nat.le_refl _) _).trans (hb.mono (by simp))
  have HE := Lib.hid hend
  clear hb hend
  go_wp2
  go_ret
  exact ⟨rfl, HE.out⟩

def okD (d : Nat) : Prop := (FloatKind.f64.format.order d 4607182418800017408 == some .gt || FloatKind.f64.format.order d 4607182418800017408 == some .eq) = true ∧
  (FloatKind.f64.format.order d 4832362400168542208 == some .lt || FloatKind.f64.format.order d 4832362400168542208 == some .eq) = true

theorem wpList_copy_bools {w : World} {ops : Array Oper} {rest : List Oper} {o : Oper} {act : Act} {Q : Exit → Act → World → Prop} (hgd : o.guard = none) (x : Operand)
    (ho : o.op = .call { callee := .builtin .append, args := #[.const (.slice none 0 0), x], argTypes := #[27, 27] }) (a : Option Addr) (ka : List Bool) (ca : Nat) (hx : act.eval x = .slice a ka.length ca)
    (hc : BoolsAt w a ka) (hna : a = none → ka = [] ∧ ca = 0) (hlen : ka.length ≤ 100)
    (h : ∀ v' w', w'.ownsRow w.heap.size 4 1 v' ka.length (ka.map Value.bool) → Below w.heap.size w w' → wpList Try.prog ops Q rest (act.put o.dst v') w') : wpList Try.prog ops Q (o :: rest) act w := by
  obtain ⟨i0, hi, hz0, hz1, hz2⟩ := info_parts info4
  cases a with
  | none =>
    obtain ⟨rfl, rfl⟩ := hna rfl
    exact wpList_append_own_none hgd (.const (.slice none 0 0)) x 27 ho w.heap.size 4 i0 1 Try.underlying27 hi (.slice none 0 0) 0 [] rfl (World.ownsRow_nil _ _ _ _) hx
      (h _ _ (World.ownsRow_nil _ _ _ _) (Below.refl _ _))
  | some x0 =>
    refine wpList_append_own w hgd (.const (.slice none 0 0)) x 27 ho w.heap.size 4 i0 (.bool false) 1 1 Try.underlying27 hi hz0 hz1 hz2 rfl (by decide) (.slice none 0 0) 0 [] rfl (World.ownsRow_nil _ _ _ _) x0 ka.length ca (ka.map Value.bool) hx (by simp) (news_bools hc) (ones_bools ka)
      (by unfold maxLen; omega) (by omega) (Nat.le_refl _) fun v' w' hown hgr _ => ?_
    refine h v' w' (by simpa using hown) ((Below.refl _ _).grown hgr (Nat.le_refl _) fun k hk => by cases hk)

theorem Size_sl (v0 v1 v2 : Int) (x0 d0 d1 d2 : Nat) (cap n : Nat) (a : Option Addr) (ks : List Bool) (s : Nat) (hs : szB x0 [v0, v1, v2] [d0, d1, d2] ks = s) (hn : ks.length = n) (w : World) (hm : ks.length ≤ 100)
    (hc : BoolsAt w a ks) (hca : ∀ b, a = some b → 0 < ks.length → b.block < w.heap.size) :
    Calls Try.prog 8 #[.agg #[.float .f64 x0, .int .i64 v0, .int .i64 v1, .int .i64 v2, .float .f64 d0, .float .f64 d1, .float .f64 d2], .slice a n cap] w
      fun e w' => e = .returned (.float .f64 s) ∧ Below w.heap.size w w' := by
  have h := Size_calls' v0 v1 v2 x0 d0 d1 d2 cap a ks s hs w hm hc hca
  rw [hn] at h; exact h

set_option maxHeartbeats 4000000 in
theorem More_k5 (x0 : Nat) (v0 v1 v2 : Int) (d0 d1 d2 : Nat) (ca cb : Nat) (a b : Option Addr) (ka kb : List Bool) (w : World) (hm : ka.length ≤ 100) (hn : kb.length ≤ 100)
    (h0 : (FloatKind.f64.format.order x0 0 == some .gt || FloatKind.f64.format.order x0 0 == some .eq) = true)
    (h1 : (FloatKind.f64.format.order x0 4832362400168542208 == some .lt || FloatKind.f64.format.order x0 4832362400168542208 == some .eq) = true)
    (hca : BoolsAt w a ka) (hcb : BoolsAt w b kb) (hla : ∀ x, a = some x → 0 < ka.length → x.block < w.heap.size) (hlb : ∀ x, b = some x → 0 < kb.length → x.block < w.heap.size)
    (hna : a = none → ka = [] ∧ ca = 0) :
    Calls Try.prog 5 #[.agg #[.float .f64 x0, .int .i64 v0, .int .i64 v1, .int .i64 v2, .float .f64 d0, .float .f64 d1, .float .f64 d2], .slice a ka.length ca, .slice b kb.length cb] w fun e w' => e = .returned (.bool true) ∧ Below w.heap.size w w' := by
  have hd : decide (100 < (ka.length : Int)) = false := by simp; omega
  have hd2 : decide (100 < (kb.length : Int)) = false := by simp; omega
  have hlt : w.heap.size < (w.alloc (.cells #[.float .f64 x0, .int .i64 v0, .int .i64 v1, .int .i64 v2, .float .f64 d0, .float .f64 d1, .float .f64 d2] 26)).heap.size := by simp
  have hbw : Below w.heap.size w (w.alloc (.cells #[.float .f64 x0, .int .i64 v0, .int .i64 v1, .int .i64 v2, .float .f64 d0, .float .f64 d1, .float .f64 d2] 26)) := (Below.refl _ _).alloc (Nat.le_refl _) _
  have hca2 := hca.below hbw hla
  have hcb2 := hcb.below hbw hlb
  have hcell : ∀ i, (w.alloc (.cells #[.float .f64 x0, .int .i64 v0, .int .i64 v1, .int .i64 v2, .float .f64 d0, .float .f64 d1, .float .f64 d2] 26)).cell? ⟨w.heap.size, i, none⟩ = #[Value.float .f64 x0, .int .i64 v0, .int .i64 v1, .int .i64 v2, .float .f64 d0, .float .f64 d1, .float .f64 d2][i]? := fun i => by rw [World.cell?_alloc_new]
  have HCA := Lib.hid hca2
  have HCB := Lib.hid hcb2
  have HLA := Lib.hid hla
  have HLB := Lib.hid hlb
  have HNA := Lib.hid hna
  have HX := Lib.hid hcell
  have HW := Lib.hid hbw
  have H0 := Lib.hid h0
  have H1 := Lib.hid h1
  clear hca hcb hca2 hcb2 hcell hbw hla hlb hna
  go_enter Try.func5, Try.ntmps5
  go_wp2_with fail
  generalize w.alloc (.cells #[.float .f64 x0, .int .i64 v0, .int .i64 v1, .int .i64 v2, .float .f64 d0, .float .f64 d1, .float .f64 d2] 26) = W at *
  clear h0 h1
  go_loop [7] (fun i => ∃ k : Nat, k ≤ 3 ∧ i = .int .i64 k ∧ ∀ j, j < k → okD ([d0, d1, d2].getD j 0)) (fun i => 3 - (intOf i).toNat)
  case atStart => exact ⟨0, by omega, rfl, fun j hj => by omega⟩
  case round =>
    obtain ⟨k, hk, rfl, hok⟩ := hrel
    have HOK := Lib.hid hok
    clear hok
    by_cases hlt3 : k < 3
    · have hdc : W.cell? ⟨w.heap.size, 1 + 3 + k, none⟩ = some (.float .f64 ([d0, d1, d2].getD k 0)) := by
        rw [HX.out (1 + 3 + k)]
        rcases (by omega : k = 0 ∨ k = 1 ∨ k = 2) with rfl | rfl | rfl <;> rfl
      generalize hdv : [d0, d1, d2].getD k 0 = d at hdc
      have HD := Lib.hid hdv
      clear hdv
      cases g0 : (FloatKind.f64.format.order d 4607182418800017408 == some .gt || FloatKind.f64.format.order d 4607182418800017408 == some .eq)
      · go_wp2_with fail
        refine (known_calls _).mono ?_
        rintro e w1 ⟨rfl, hb⟩
        have hend : Below w.heap.size w w1 := HW.out.trans (hb.mono (Nat.le_of_lt hlt))
        have HE := Lib.hid hend
        clear hb hend
        go_wp2
        go_ret
        exact ⟨rfl, HE.out⟩
      · cases g1 : (FloatKind.f64.format.order d 4832362400168542208 == some .lt || FloatKind.f64.format.order d 4832362400168542208 == some .eq)
        · go_wp2_with fail
          refine (known_calls _).mono ?_
          rintro e w1 ⟨rfl, hb⟩
          have hend : Below w.heap.size w w1 := HW.out.trans (hb.mono (Nat.le_of_lt hlt))
          have HE := Lib.hid hend
          clear hb hend
          go_wp2
          go_ret
          exact ⟨rfl, HE.out⟩
        · have HG : Hid (okD d) := ⟨g0, g1⟩
          go_wp2
          go_round
          case rel =>
            refine ⟨k + 1, by omega, by go_num, fun j hj => ?_⟩
            rcases Nat.lt_or_ge j k with h | h
            · exact HOK.out j h
            · have : j = k := by omega
              subst this
              rw [HD.out]; exact HG.out
          case measure => simp [intOf]; omega
    · have hk3 : k = 3 := by omega
      subst hk3
      go_wp2_with (at_builtin; refine wpList_copy_bools rfl _ rfl a ka ca rfl HCA.out HNA.out hm ?_; intro v w1 hown1 hb1)
      have HO1 := Lib.hid hown1
      have HB1 := Lib.hid hb1
      clear hown1 hb1
      go_wp2
      obtain ⟨i0, hi, hz0, hz1, hz2⟩ := info_parts info4
      go_loopw [8, 9] (fun v i wr => ∃ k : Nat, k ≤ kb.length ∧ i = .int .i64 k ∧ wr.ownsRow W.heap.size 4 1 v (bothF ka kb k).length ((bothF ka kb k).map Value.bool) ∧ Below W.heap.size W wr)
        (fun _ i _ => kb.length - (intOf i).toNat)
      case atStart => exact ⟨0, Nat.zero_le _, rfl, by rw [bothF_zero]; exact HO1.out, HB1.out⟩
      case round =>
        obtain ⟨k, hk, rfl, hown, hbl⟩ := hrel
        have HBL := Lib.hid hbl
        have hsz : W.heap.size ≤ wr.heap.size := hbl.size
        clear hbl
        by_cases hlt2 : k < kb.length
        · obtain ⟨bb, off, rfl, hbc⟩ := HCB.out k hlt2
          have hbb : bb < W.heap.size := Nat.lt_trans (HLB.out _ rfl (by omega)) hlt
          have hbc2 := (HBL.out.cell (p := ⟨bb, off + k, none⟩) hbb).trans hbc
          clear hbc
          generalize hy : kb.getD k false = y at hbc2
          have HY := Lib.hid hy
          clear hy
          by_cases hin : k < ka.length
          · have hL : (bothF ka kb k).length = ka.length := by rw [bothF_len]; omega
            rw [hL] at hown
            obtain ⟨g, cap, rfl, hg⟩ := owns_some hown (by omega)
            have hck : wr.cell? ⟨g, k, none⟩ = some (.bool (ka.getD k false)) := by
              rw [hown.cellAt k (by omega), List.getElem?_map, bothF_get ka kb k k (by omega)]; simp
            have hfr := hown.frozenAt k
            have hst := fun z => hown.stored k (.bool z)
            generalize hx : ka.getD k false = x at hck
            have HXX := Lib.hid hx
            have HST := Lib.hid hst
            have hin2 : ¬ (ka.length ≤ k) := by omega
            clear hx hst hown
            cases x
            · go_wp2
              go_roundw
              case rel =>
                refine ⟨k + 1, by omega, by go_num, ?_, HBL.out.setCell hg _⟩
                have := (HST.out y).1
                rw [bothF_set ka kb k hin, HXX.out, HY.out]
                rw [List.length_set, hL]
                rw [List.map_set]
                exact this
              case measure => simp [intOf]; omega
            · go_wp2
              go_roundw
              case rel =>
                refine ⟨k + 1, by omega, by go_num, ?_, HBL.out.setCell hg _⟩
                have := (HST.out true).1
                rw [bothF_set ka kb k hin, HXX.out, HY.out]
                rw [List.length_set, hL]
                rw [List.map_set]
                exact this
              case measure => simp [intOf]; omega
          · have hL : (bothF ka kb k).length = k := by rw [bothF_len]; omega
            rw [hL] at hown
            obtain ⟨va, capv, rfl⟩ := owns_slice hown
            go_wp2_with (at_builtin; refine wpList_append_own _ rfl _ _ 27 rfl W.heap.size 4 i0 (.bool false) 1 1 Try.underlying27 hi hz0 hz1 hz2 rfl (by decide) _ _ _ rfl (hown.alloc _) ⟨wr.heap.size, 0, none⟩ 1 1 [.bool false] rfl rfl ?c1 ?c2 ?c3 ?c4 ?c5 ?_)
            case c1 =>
              intro j u hj
              match j, hj with
              | 0, hj => simp at hj; subst hj; simp [Addr.add]
            case c2 => intro u hu; simp at hu; subst hu; rfl
            case c3 => unfold maxLen; omega
            case c4 => omega
            case c5 => simp; omega
            intro v' w2 hown' hgrow _
            have hb2 : Below W.heap.size W w2 := (HBL.out.alloc hsz _).grown hgrow (by simp; omega) (fun j hj => (hown.lt j hj).1)
            obtain ⟨g, cap, rfl, hg⟩ := owns_some hown' (by omega)
            have hck : w2.cell? ⟨g, k, none⟩ = some (.bool false) := by
              rw [hown'.cellAt k (by omega), List.getElem?_append_right (by simp [hL]), List.length_map, hL, Nat.sub_self]; rfl
            have hbc3 : w2.cell? ⟨bb, off + k, none⟩ = some (.bool y) := by
              refine (hb2.cell (p := ⟨bb, off + k, none⟩) hbb).trans ?_
              rw [← HBL.out.cell (p := ⟨bb, off + k, none⟩) hbb]; exact hbc2
            have hfr := hown'.frozenAt k
            have hst := hown'.stored k (.bool y)
            have HST := Lib.hid hst
            have HB2 := Lib.hid hb2
            clear hst hown hown' hgrow hbc2 hb2
            go_wp2
            go_roundw
            case rel =>
              refine ⟨k + 1, by omega, by go_num, ?_, HB2.out.setCell hg _⟩
              have := HST.out.1
              rw [bothF_push ka kb k (by omega), HY.out, List.length_set, List.length_append, hL, List.map_set, List.map_append]
              exact this
            case measure => simp [intOf]; omega
        · have hkk : k = kb.length := by omega
          subst hkk
          obtain ⟨va, cap, rfl, hbo, hlo⟩ := owns_bools hown rfl
          have hKB : (bothF ka kb kb.length).length ≤ 100 := by rw [bothF_len]; omega
          have hdd : ∀ k, k < 3 → ∃ n j, Ieee.DD ([d0, d1, d2].getD k 0) n j := fun k hk => Ieee.DD_of (HOK.out k hk).1 (HOK.out k hk).2
          have hles : lessB (szB x0 [v0, v1, v2] [d0, d1, d2] ka) (szB x0 [v0, v1, v2] [d0, d1, d2] (bothF ka kb kb.length)) = false :=
            cost_more (bothF_more ka kb kb.length) (Ieee.NN_of H0.out H1.out) hdd
          generalize hs1 : szB x0 [v0, v1, v2] [d0, d1, d2] ka = s1 at hles
          generalize hs2 : szB x0 [v0, v1, v2] [d0, d1, d2] (bothF ka kb kb.length) = s2 at hles
          have HS1 := Lib.hid hs1
          have HS2 := Lib.hid hs2
          clear hs1 hs2 hdd
          generalize hnn : (bothF ka kb kb.length).length = nn at *
          have HNN := Lib.hid hnn
          have HBO := Lib.hid hbo
          have HLO := Lib.hid hlo
          have HKB := Lib.hid hKB
          clear hnn hbo hlo hKB hown
          have hlt4 : w.heap.size < wr.heap.size := Nat.lt_of_lt_of_le hlt hsz
          obtain ⟨c0, c1, c2, c3, c4, c5, c6⟩ := box7_below HBL.out hlt ⟨HX.out 0, HX.out 1, HX.out 2, HX.out 3, HX.out 4, HX.out 5, HX.out 6⟩
          have hba : Hid (BoolsAt wr a ka) := HCA.out.below HBL.out (fun x e h => Nat.lt_trans (HLA.out x e h) hlt)
          have hla2 : Hid (∀ x, a = some x → 0 < ka.length → x.block < wr.heap.size) := fun x e h => Nat.lt_trans (HLA.out x e h) hlt4
          go_wp2_with fail
          go_region_held3 (fun w' => w'.cell? ⟨w.heap.size, 0, none⟩ = some (.float .f64 x0) ∧ w'.cell? ⟨w.heap.size, 1, none⟩ = some (.int .i64 v0) ∧ w'.cell? ⟨w.heap.size, 2, none⟩ = some (.int .i64 v1) ∧ w'.cell? ⟨w.heap.size, 3, none⟩ = some (.int .i64 v2) ∧ w'.cell? ⟨w.heap.size, 4, none⟩ = some (.float .f64 d0) ∧ w'.cell? ⟨w.heap.size, 5, none⟩ = some (.float .f64 d1) ∧ w'.cell? ⟨w.heap.size, 6, none⟩ = some (.float .f64 d2))
            (first | go_keep | (go_split_ands; first | exact box7_below hb5 (Nat.lt_of_lt_of_le hlt4 (Nat.le_trans hz1 hz2)) ⟨by assumption, by assumption, by assumption, by assumption, by assumption, by assumption, by assumption⟩ | exact box7_below hb2 (Nat.lt_of_lt_of_le hlt4 hz1) ⟨by assumption, by assumption, by assumption, by assumption, by assumption, by assumption, by assumption⟩ | exact box7_below hb1 hlt4 ⟨by assumption, by assumption, by assumption, by assumption, by assumption, by assumption, by assumption⟩))
            (first | (go_at_call_of 8 (Value.slice a ka.length ca); refine (Size_sl v0 v1 v2 x0 d0 d1 d2 ca ka.length a ka s1 HS1.out rfl _ hm (by exact hba.out) (by exact hla2.out)).mono ?_; rintro e w3 ⟨rfl, hb1⟩; have hz1 : wr.heap.size ≤ w3.heap.size := hb1.size) | (go_at_call_of 8 (Value.slice va nn cap); refine (Size_sl v0 v1 v2 x0 d0 d1 d2 cap nn va (bothF ka kb kb.length) s2 HS2.out HNN.out _ (by rw [HNN.out]; exact HKB.out) (by exact BoolsAt.below (by exact HBO.out) hb1 (by rw [HNN.out]; exact HLO.out)) (by exact fun x e h => Nat.lt_of_lt_of_le (HLO.out x e (by rw [← HNN.out]; exact h)) hz1)).mono ?_; rintro e w4 ⟨rfl, hb2⟩; have hz2 : w3.heap.size ≤ w4.heap.size := hb2.size) | (go_at_call 12; refine (less_any s1 s2 _).mono ?_; rintro e w5 ⟨rfl, rfl⟩) | (go_at_call 6; refine (known_calls _).mono ?_; rintro e w5 ⟨rfl, hb5⟩; have hz5 : w4.heap.size ≤ w5.heap.size := hb5.size))
          have hend : Below w.heap.size w w5 :=
            (HW.out.trans (HBL.out.mono (Nat.le_of_lt hlt))).drew.trans ((hb1.mono (Nat.le_of_lt hlt4)).trans ((hb2.mono (Nat.le_trans (Nat.le_of_lt hlt4) hz1)).trans (hb5.mono (Nat.le_trans (Nat.le_of_lt hlt4) (Nat.le_trans hz1 hz2)))))
          have HE := Lib.hid hend
          go_wp2
          go_ret
          exact ⟨rfl, HE.out⟩
end Go.Proofs.Ytbdjdkfjbbhoeaa
