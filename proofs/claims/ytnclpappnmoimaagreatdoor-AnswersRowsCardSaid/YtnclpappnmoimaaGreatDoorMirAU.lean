/- The small machine against the model: drawn regions, done. No statement of the program stands here. -/
import Derived.Test.YtnclpappnmoimaaGreatDoorMirAT
namespace Go.Mir
open Go Go.RowKit

section
variable {P : Program} {E : Env} {W0 : World} {f0 : Nat} {cs0 : List Frame} {B0 : Bs} {r : Rz} {lo : Nat} {all : List Oper} {L : List Nat} {last : Option Nat} {ops : Array Oper} {TT : List Item} {CS : List Frame}

/-- the operands of an operation whose turn has come -/
theorem ready_agree {P : Program} {tys : T TI} {lo n : Nat} {β : Beta} {h : T O} {regs : T V} {F : Frame} {sc : List Sc} {D l' seen evd must al : List Nat} {idf : Nat → Nat} {x : Nat} {o : Oper}
    (S : DS P tys lo n β h regs all F.tmps sc L D (x :: l') seen last evd must al idf) (ho : all[x]? = some o) {seen' : List Nat} (hw : Wr all L seen' x) {rq : T V} (hs : SameOn rq regs o.op) : Agrees β rq F.eval o.op := by
  have hxL : x ∈ L := by rw [S.split]; simp
  have notD : ∀ y, y ∈ x :: l' → ¬ Prec L y x := fun y hy hp => by
    have hyD := hp D l' S.split
    have hn := S.lin.nodup
    rw [S.split] at hn
    exact (List.nodup_append.1 hn).2.2 y hyD y hy rfl
  intro y hy
  cases y with
  | tmp t =>
    intro v hv
    rw [hs t hy] at hv
    refine S.regs t v hv fun ⟨z, hz1, hz2, oz, hoz, hzd⟩ => ?_
    rcases (hw o ho).1 t hy z oz hoz hzd with ⟨_, h1⟩ | h1
    · exact notD z hz2 h1
    · exact notD z hz2 ((S.wr z hz1 hz2).2 oz t hoz hzd x o ho hy)
  | const c => rfl
  | global g => trivial
  | func f => rfl

theorem ready_wanted {P : Program} {tys : T TI} {lo n : Nat} {β : Beta} {h : T O} {regs : T V} {tmps : Array Value} {sc : List Sc} {D l' seen evd must al : List Nat} {idf : Nat → Nat} {x : Nat} {o : Oper} {b : Bool} (ha : ops.toList = all)
    (S : DS P tys lo n β h regs all tmps sc L D (x :: l') seen last evd must al idf) (ho : all[x]? = some o) {seen' : List Nat} (hw : Wr all L seen' x) (hb : wantB all regs o.guard = some b) : Region.wanted o (yielded ops tmps) = b := by
  refine wanted_ok (β := β) ha hb fun j w oj d v hg hj hd hv => ?_
  refine S.regs d v hv fun ⟨z, hz1, hz2, oz, hoz, hzd⟩ => ?_
  have := nodupD_ok S.dd z j oz oj d hoz hj hzd hd
  subst this
  have hyD := ((hw o ho).2 _ _ hg).2 D l' S.split
  have hn := S.lin.nodup
  rw [S.split] at hn
  exact (List.nodup_append.1 hn).2.2 z hyD z hz2 rfl

theorem DS.done1 {P : Program} {tys : T TI} {lo n : Nat} {β β' : Beta} {h : T O} {regs : T V} {tmps : Array Value} {sc : List Sc} {D l' seen evd must al : List Nat} {idf : Nat → Nat} {x : Nat} {o : Oper}
    (S : DS P tys lo n β h regs all tmps sc L D (x :: l') seen last evd must al idf) (ho : all[x]? = some o) (hx : x ∈ seen) {val : Value} (hle : Le β β')
    (hd : ∀ d, o.dst = some d → d < tmps.size) (hv : ∀ d v, o.dst = some d → regs.get d = some v → conc β' v = some val)
    (hlg : ∀ y ∈ seen, y ∈ l' → LateG P tys all β' h regs al idf y) :
    DS P tys lo n β' h regs all (putT tmps o.dst val) sc L (D ++ [x]) l' seen last evd must al idf :=
  { lin := S.lin
    dd := S.dd
    split := by rw [S.split]; simp
    st := S.st
    done := fun y hy => by
      rcases List.mem_append.1 hy with h | h
      · exact S.done y h
      · have : y = x := by simpa using h
        subst this; exact hx
    late := fun y h1 h2 => S.late y h1 (List.mem_cons_of_mem _ h2)
    lastD := fun c hc => List.mem_append_left _ (S.lastD c hc)
    wr := fun y h1 h2 => S.wr y h1 (List.mem_cons_of_mem _ h2)
    lg := hlg
    al1 := S.al1
    inj := S.inj
    regs := fun t v hv' hns => by
      by_cases e : o.dst = some t
      · rw [hv t v e hv']
        have := hd t e
        simp only [putT, e]
        rw [Array.getD_eq_getD_getElem?, Array.getElem?_setIfInBounds, if_pos rfl, if_pos this]; rfl
      · rw [conc_mono hle _ _ (S.regs t v hv' fun ⟨z, h1, h2, oz, hoz, hzd⟩ => ?_)]
        · cases hod : o.dst with
          | none => rfl
          | some d =>
            have : d ≠ t := fun h => e (by rw [hod, h])
            simp only [putT]
            rw [Array.getD_eq_getD_getElem?, Array.getD_eq_getD_getElem?, Array.getElem?_setIfInBounds, if_neg this]
        · cases h2 with
          | head => rw [ho] at hoz; cases hoz; exact e hzd
          | tail _ h2 => exact hns ⟨z, h1, h2, oz, hoz, hzd⟩
    dl := fun y h1 h2 => by rw [putT_size]; exact S.dl y h1 (List.mem_cons_of_mem _ h2) }

/-- what is worked out is done, as long as it stands ahead -/
theorem late_ok {i : Fi} {t : List It} {sc : List Sc} {regs : T V} {h : T O} {n : Nat} {seen evd al : List Nat} {idf : Nat → Nat} {cs : List Fr} (ha : ops.toList = all) :
    ∀ (l D : List Nat) (β : Beta) (F : Frame) (w : World), F.mode = .run → F.todo = .inRegion ops l :: TT → FiR β i F → TodoR β t TT → StackR P E.tys f0 cs0 B0 β h lo i cs CS → HR W0 β h n w → lo ≤ n →
      DS P E.tys lo n β h regs all F.tmps sc L D l seen last evd [] al idf → FreshR P E.tys all h regs l seen [] →
      (∀ l D β F w, F.mode = .run → F.todo = .inRegion ops l :: TT → FiR β i F → TodoR β t TT → StackR P E.tys f0 cs0 B0 β h lo i cs CS → HR W0 β h n w →
        DS P E.tys lo n β h regs all F.tmps sc L D l seen last evd [] al idf → FreshR P E.tys all h regs l seen [] → (∀ x l', l = x :: l' → x ∉ seen) → Ends P W0 f0 cs0 B0 r F CS w) →
      Ends P W0 f0 cs0 B0 r F CS w
  | [], D, β, F, w, hm, hF, hfi, hT, HS, HH, hlo, S, hFr, K => K [] D β F w hm hF hfi hT HS HH S hFr (fun x l' h => by cases h)
  | x :: l', D, β, F, w, hm, hF, hfi, hT, HS, HH, hlo, S, hFr, K => by
    by_cases hx : x ∈ seen
    · obtain ⟨o, ho⟩ : ∃ o, all[x]? = some o := by
        have := S.lin.lt x (by rw [S.split]; simp)
        exact ⟨_, List.getElem?_eq_getElem this⟩
      have hox : ops[x]? = some o := by rw [getE_toList, ha]; exact ho
      have hxl : x ∈ x :: l' := by simp
      obtain ⟨hwr, hrd⟩ := S.wr x hx hxl
      obtain ⟨b, hb, hg0, hg1⟩ := S.lg x hx hxl o ho
      have hwant := ready_wanted ha S ho hwr hb
      have hdlt : ∀ d, o.dst = some d → d < F.tmps.size := fun d hd => S.dl x hx hxl o d ho hd
      have hfinish : ∀ val, F.finish val = { F with tmps := putT F.tmps o.dst val, todo := .inRegion ops l' :: TT } := fun val => finish_region hF (by rw [hox]; rfl) val
      have fresh' : FreshR P E.tys all h regs l' seen [] := fun y h1 h2 => hFr y h1 (List.mem_cons_of_mem _ h2)
      have next : ∀ β' val w', Le β β' → HR W0 β' h n w' → StackR P E.tys f0 cs0 B0 β' h lo i cs CS → (∀ d v, o.dst = some d → regs.get d = some v → conc β' v = some val) →
          (∀ y ∈ seen, y ∈ l' → LateG P E.tys all β' h regs al idf y) → Ends P W0 f0 cs0 B0 r (F.finish val) CS w' := by
        intro β' val w' hle H' HS' hv hlg
        rw [hfinish]
        exact late_ok ha l' (D ++ [x]) β' _ w' hm rfl ⟨hfi.fn, by simp [putT_size, hfi.sz], hfi.kind, hfi.defers.mono hle, hfi.round.mono hle⟩ (hT.mono hle) HS' H' hlo
          (S.done1 ho hx hle hdlt hv hlg) fresh' K
      have same : ∀ y ∈ seen, y ∈ l' → LateG P E.tys all β h regs al idf y := fun y h1 h2 => S.lg y h1 (List.mem_cons_of_mem _ h2)
      cases b with
      | false =>
        exact (next β undef w (Le.refl β) HH HS (fun d v hd hv => by rw [hg0 rfl d hd] at hv; cases hv; exact conc_undef β) same).step (r_opSkip hm hF hox hwant)
      | true =>
        cases hal : isAl E.tys o.op with
        | false =>
          have hP : PF P h regs o := by
            rcases hFr x hx hxl with h1 | h1
            · cases h1
            · exact h1 o ho hb hal
          obtain ⟨rq, hq, v, a1, a2, a3, a4⟩ := hP
          have hA := ready_agree S ho hwr a2
          obtain ⟨val, hc, hrun⟩ := a1 W0 β n w F.eval (HH.sub a3) hA
          have hrun := hrun o rfl
          have hE := next β val w (Le.refl β) HH HS (fun d u hd hu => by rw [a4 d hd] at hu; cases hu; exact hc) same
          refine hE.step (step_lone_go ?_)
          rw [stepG_oper hm hF hox hwant (fun c hc => by have := allSel_ok S.st.sel x o ho; rw [hc] at this; cases this)]
          exact apply_value hrun
        | true =>
          obtain ⟨hin, rq, ob, vf, a1, a2, a3, a4, a5, _⟩ := hg1 rfl hal
          obtain ⟨_, hlo1, hhi⟩ := S.al1 x hin
          have hA := ready_agree S ho hwr a2
          obtain ⟨room, obj, val, w', hrun, h1, h2, h3, h4, h5⟩ := a1 β w F.eval hA
          have hrun := hrun o rfl
          obtain ⟨h6, h7⟩ := h5 (upd β (idf x) ⟨w.heap.size, 0, room⟩) (idf x) (upd_le a5) upd_self
          have HA := (HH.alloc (o := ob) (b := ⟨w.heap.size, 0, room⟩) (ob := obj) hhi a5 a4 rfl h7).congr h1 h2 h3 h4
          have MB : MoreB lo β h n (upd β (idf x) ⟨w.heap.size, 0, room⟩) h n := ⟨upd_le a5, Nat.le_refl n, fun id hid hb => ⟨by
            have : id ≠ idf x := by omega
            simp [upd, this, hb], fun _ _ h => h⟩⟩
          have hE := next _ val w' (upd_le a5) HA (HS.more MB) (fun d u hd hu => by rw [a3 d hd] at hu; cases hu; exact h6) (fun y hy1 hy2 oy hoy => by
            obtain ⟨b', c1, c2, c3⟩ := S.lg y hy1 (List.mem_cons_of_mem _ hy2) oy hoy
            refine ⟨b', c1, c2, fun hb' ha' => ?_⟩
            obtain ⟨hyin, rq', ob', vf', d1, d2, d3, d4, d5, d6⟩ := c3 hb' ha'
            refine ⟨hyin, rq', ob', vf', d1, d2, d3, d4, ?_, d6⟩
            have hne : idf y ≠ idf x := fun e => by
              have := S.inj y hyin x hin e
              subst this
              have hn := S.lin.nodup
              rw [S.split] at hn
              exact (List.nodup_cons.1 (List.nodup_append.1 hn).2.1).1 hy2
            simp [upd, hne, d5])
          refine hE.step (step_lone_go ?_)
          rw [stepG_oper hm hF hox hwant (fun c hc => by rw [hc] at hal; cases hal)]
          exact apply_value hrun
    · exact K (x :: l') D β F w hm hF hfi hT HS HH S hFr (fun y l'' h => by cases h; exact hx)
end

end Go.Mir
