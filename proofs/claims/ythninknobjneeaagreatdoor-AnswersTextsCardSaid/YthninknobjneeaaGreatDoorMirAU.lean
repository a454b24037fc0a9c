/- The small machine against the model: drawn regions, done. No statement of the program stands here. -/
import Derived.Test.YthninknobjneeaaGreatDoorMirAS
namespace Go.Mir
open Go Go.RowKit

theorem pureK_al {tys : T TI} {h : T O} {regs : T V} {op : Op} (ha : isAl tys op = true) (k : V → Out) (kn : Out) : pureK tys h regs op k kn = kn := by
  cases op <;> first | rfl | (cases ha; done) | skip
  case convert s d x =>
    have ha : toBytes tys d = true := ha
    show (Bool.rec (ev regs x fun x => convK tys h s d x k) kn (toBytes tys d) : Out) = kn
    rw [ha]

theorem allocK_al {tys : T TI} {regs : T V} {op : Op} (ha : isAl tys op = false) (k : O → (Nat → V) → Out) (kn : Out) : allocK tys regs op k kn = kn := by
  cases op <;> first | rfl | (cases ha; done) | skip
  case convert s d x =>
    have ha : toBytes tys d = false := ha
    show (Bool.rec kn (om (tys.get s) fun _ => ev regs x fun x => bytesOfK tys d x k) (toBytes tys d) : Out) = kn
    rw [ha]

section
variable {P : Program} {tys : T TI} (HT : TysR P tys) {lo : Nat} {β : Beta} {all : List Oper} {tmps : Array Value} {L D l : List Nat} {last : Option Nat}

/-- what i makes is not looked at by what is worked out before it -/
theorem free_of {seen : List Nat} {i x : Nat} (hdd : nodupD all = true) (hx : x ∈ seen) (hi : i ∉ seen) (hw : Wr all L seen x) {o : Oper} {d : Nat} (ho : all[i]? = some o) (hd : o.dst = some d)
    (hnot : ¬ Prec L x i) : Free all d x := by
  intro ox hox
  refine ⟨fun hin => ?_, fun g w hg og hog hgd => ?_, fun hxd => ?_⟩
  · rcases (hw ox hox).1 d hin i o ho hd with ⟨h1, _⟩ | h1
    · exact hi h1
    · exact hnot h1
  · have := nodupD_ok hdd g i og o d hog ho hgd hd
    subst this
    exact hi ((hw ox hox).2 _ _ hg).1
  · have := nodupD_ok hdd x i ox o d hox ho hxd hd
    subst this
    exact hi hx

def FreshR (P : Program) (tys : T TI) (all : List Oper) (h : T O) (regs : T V) (l seen must : List Nat) : Prop := ∀ x ∈ seen, x ∈ l → x ∈ must ∨ LateP P tys all h regs x

theorem late_in {h : T O} {hi : Nat} {regs : T V} {sc : List Sc} {seen evd must al : List Nat} {idf : Nat → Nat} (S : DS P tys lo hi β h regs all tmps sc L D l seen last evd must al idf) {i : Nat} {o : Oper} (ho : all[i]? = some o) (hi : i ∉ seen) : i ∈ l := by
  have := S.lin.mem i (lt_of_get ho)
  rw [S.split] at this
  rcases List.mem_append.1 this with h | h
  · exact absurd (S.done i h) hi
  · exact h

/-- an operation is worked out: what it makes is put into its place -/
theorem DS.ev {h h' : T O} {n n' : Nat} {regs regs' : T V} {sc : List Sc} {seen evd must al al' : List Nat} {idf idf' : Nat → Nat} {i : Nat} {o : Oper} {v : V} 
    (S : DS P tys lo n β h regs all tmps (.ev i :: sc) L D l seen last evd must al idf) (hF : FreshR P tys all h regs l seen must) (ho : all[i]? = some o) (hdl : ∀ d, o.dst = some d → d < tmps.size)
    (hg : ∀ t, regs'.get t = if o.dst = some t then some v else regs.get t) (M : MoreB n β h n β h' n') (hsub : ∀ j x, h.get j = some x → h'.get j = some x)
    (hal : (al' = al ∧ idf' = idf) ∨ (al' = i :: al ∧ idf' = (fun y => if y = i then n else idf y) ∧ lo ≤ n ∧ n < n'))
    (hlg : LateG P tys all β h' regs' al' idf' i) (hlp : LateP P tys all h' regs' i) :
    DS P tys lo n' β h' regs' all tmps sc L D l (i :: seen) last (i :: evd) must al' idf' ∧ FreshR P tys all h' regs' l (i :: seen) must := by
  obtain ⟨_, hin, _, hwr, hrd, st⟩ := S.st.ev S.lin
  have hil := late_in S ho hin
  have hL : ∀ x ∈ l, x ∈ L := fun x hx => by rw [S.split]; simp [hx]
  have hfree : ∀ d, o.dst = some d → ∀ x ∈ seen, x ∈ l → Free all d x := by
    intro d hd x hx hxl
    by_cases hp : Prec L x i
    · -- x is to come, so it does not look at what i makes
      intro ox hox
      refine ⟨fun hxin => ?_, fun g w hg' og hog hgd => ?_, fun hxd => ?_⟩
      · exact Prec.asymm S.lin.nodup hp (hrd o d ho hd x ox hox hxin) (hL i hil)
      · have := nodupD_ok S.dd g i og o d hog ho hgd hd
        subst this
        exact hin (((S.wr x hx hxl).1 ox hox).2 _ _ hg').1
      · have := nodupD_ok S.dd x i ox o d hox ho hxd hd
        subst this
        exact hin hx
    · exact free_of S.dd hx hin (S.wr x hx hxl).1 ho hd hp
  have hi_al : i ∉ al := fun h => hin (S.al1 i h).1
  have hidf : ∀ x ∈ seen, idf' x = idf x := by
    intro x hx
    rcases hal with ⟨_, rfl⟩ | ⟨_, rfl, _, _⟩
    · rfl
    · have : x ≠ i := fun e => hin (e ▸ hx)
      simp [this]
  have hal_sub : ∀ x ∈ al, x ∈ al' := by
    intro x hx
    rcases hal with ⟨rfl, _⟩ | ⟨rfl, _⟩
    · exact hx
    · exact List.mem_cons_of_mem _ hx
  refine ⟨⟨S.lin, S.dd, S.split, st, fun x hx => List.mem_cons_of_mem _ (S.done x hx), fun x hx hxl => ?_, S.lastD, fun x hx hxl => ?_, fun x hx hxl => ?_, fun x hx => ?_, fun x hx y hy e => ?_, fun t u hu hns => ?_, fun x hx hxl ox d hox hd => ?_⟩, fun x hx hxl => ?_⟩
  · cases hx with
    | head => simp
    | tail _ hx => exact List.mem_cons_of_mem _ (S.late x hx hxl)
  · cases hx with
    | head => exact ⟨hwr.more fun x hx => List.mem_cons_of_mem _ hx, hrd⟩
    | tail _ hx => exact ⟨(S.wr x hx hxl).1.more fun x hx => List.mem_cons_of_mem _ hx, (S.wr x hx hxl).2⟩
  · cases hx with
    | head => exact hlg
    | tail _ hx =>
      have h1 := ((S.lg x hx hxl).more M fun hx => (S.al1 x hx).2.2).set hg fun d hd => hfree d hd x hx hxl
      intro ox hox
      obtain ⟨b, a1, a2, a3⟩ := h1 ox hox
      exact ⟨b, a1, a2, fun hb ha => let ⟨c1, c2⟩ := a3 hb ha; ⟨hal_sub x c1, by rw [hidf x hx]; exact c2⟩⟩
  · rcases hal with ⟨rfl, rfl⟩ | ⟨rfl, rfl, h1, h2⟩
    · obtain ⟨a, b, c⟩ := S.al1 x hx
      exact ⟨List.mem_cons_of_mem _ a, b, Nat.lt_of_lt_of_le c M.lt⟩
    · cases hx with
      | head => exact ⟨by simp, by simp [h1], by simp [h2]⟩
      | tail _ hx =>
        obtain ⟨a, b, c⟩ := S.al1 x hx
        rw [hidf x a]
        exact ⟨List.mem_cons_of_mem _ a, b, Nat.lt_of_lt_of_le c M.lt⟩
  · rcases hal with ⟨rfl, rfl⟩ | ⟨rfl, rfl, h1, h2⟩
    · exact S.inj x hx y hy e
    · cases hx with
      | head =>
        cases hy with
        | head => rfl
        | tail _ hy =>
          obtain ⟨a, b, c⟩ := S.al1 y hy
          rw [hidf y a] at e
          simp at e; omega
      | tail _ hx =>
        obtain ⟨a, b, c⟩ := S.al1 x hx
        cases hy with
        | head =>
          rw [hidf x a] at e
          simp at e; omega
        | tail _ hy =>
          obtain ⟨a', b', c'⟩ := S.al1 y hy
          rw [hidf x a, hidf y a'] at e
          exact S.inj x hx y hy e
  · rw [hg] at hu
    by_cases e : o.dst = some t
    · exact absurd ⟨i, by simp, hil, o, ho, e⟩ hns
    · rw [if_neg e] at hu
      exact S.regs t u hu fun ⟨x, h1, h2, h3⟩ => hns ⟨x, List.mem_cons_of_mem _ h1, h2, h3⟩
  · cases hx with
    | head => rw [ho] at hox; cases hox; exact hdl d hd
    | tail _ hx => exact S.dl x hx hxl ox d hox hd
  · cases hx with
    | head => exact .inr hlp
    | tail _ hx =>
      rcases hF x hx hxl with h1 | h1
      · exact .inl h1
      · refine .inr (LateP.set (fun ox hox hw ha => ?_) hg fun d hd => hfree d hd x hx hxl)
        obtain ⟨rq, hq, u, a1, a2, a3, a4⟩ := h1 ox hox hw ha
        exact ⟨rq, hq, u, a1, a2, fun j y hj => hsub j y (a3 j y hj), a4⟩

include HT in
/-- between two of the row: everything that may be done there is worked out -/
theorem gap_ok {W0 : World} {w : World} {sz : Nat} (hsz : tmps.size = sz) {k : List Sc → T V → T O → Nat → Out} {r : Rz} : ∀ (sc : List Sc) (regs : T V) (h : T O) (n : Nat) (seen evd must al : List Nat) (idf : Nat → Nat),
    gapK tys all sz sc regs h n k = .ok r → DS P tys lo n β h regs all tmps sc L D l seen last evd must al idf → FreshR P tys all h regs l seen must → HR W0 β h n w → lo ≤ n →
    ∃ sc' regs' h' n' seen' evd' must' al' idf', k sc' regs' h' n' = .ok r ∧ (sc' = [] ∨ ∃ c s, sc' = .ch c :: s) ∧ DS P tys lo n' β h' regs' all tmps sc' L D l seen' last evd' must' al' idf' ∧
      FreshR P tys all h' regs' l seen' must' ∧ HR W0 β h' n' w ∧ lo ≤ n' ∧ More β h n β h' n'
  | [], regs, h, n, seen, evd, must, al, idf, e, S, hF, HH, hlo => ⟨[], regs, h, n, seen, evd, must, al, idf, e, .inl rfl, S, hF, HH, hlo, More.refl _ _ _⟩
  | .ch c :: sc, regs, h, n, seen, evd, must, al, idf, e, S, hF, HH, hlo => ⟨.ch c :: sc, regs, h, n, seen, evd, must, al, idf, e, .inr ⟨c, sc, rfl⟩, S, hF, HH, hlo, More.refl _ _ _⟩
  | .re i :: sc, regs, h, n, seen, evd, must, al, idf, e, S, hF, HH, hlo => by
    replace e : (om (nth all i) fun o => wantK all regs o.guard fun b => Bool.rec (gapK tys all sz sc regs h n k) (gapRe tys regs h (gapK tys all sz sc regs h n k) o) b) = .ok r := e
    replace e := om_ok e; obtain ⟨o, ho, e⟩ := e
    rw [nth_eq] at ho
    replace e := wantK_ok e; obtain ⟨b, hb, e⟩ := e
    obtain ⟨_, st⟩ := S.st.re
    have S' : DS P tys lo n β h regs all tmps sc L D l seen last evd (rmN must i) al idf := { S with st := st }
    have old : ∀ x ∈ seen, x ∈ l → x ≠ i → x ∈ rmN must i ∨ LateP P tys all h regs x := fun x hx hxl hne => (hF x hx hxl).imp (fun hm => mem_rmN hm hne) id
    have fresh : (LateP P tys all h regs i) → FreshR P tys all h regs l seen (rmN must i) := fun hi x hx hxl => by
      by_cases hne : x = i
      · subst hne; exact .inr hi
      · exact old x hx hxl hne
    rcases rec_ok e with ⟨rfl, e⟩ | ⟨rfl, e⟩
    · replace e := om_ok e; obtain ⟨d, hd, e⟩ := e
      replace e := om_ok e; obtain ⟨v0, hv0, e⟩ := e
      rcases pureK_ok (P := P) HT e with ⟨v, e, hsp⟩ | e
      · replace e := need_ok e; obtain ⟨hs, e⟩ := e
        have := sameV_eq hs
        subst this
        exact gap_ok hsz sc regs h n seen evd _ al idf e S' (fresh fun o' ho' _ _ => by
          rw [ho] at ho'; cases ho'
          exact ⟨regs, h, v0, hsp, fun _ _ => rfl, fun _ _ hj => hj, fun d' hd' => by rw [hd] at hd'; cases hd'; exact hv0⟩) HH hlo
      · exact (bad_ne e).elim
    · exact gap_ok hsz sc regs h n seen evd _ al idf e S' (fresh fun o' ho' hw _ => by
        rw [ho] at ho'; cases ho'
        rw [hb] at hw; cases hw) HH hlo
  | .ev i :: sc, regs, h, n, seen, evd, must, al, idf, e, S, hF, HH, hlo => by
    replace e : (om (nth all i) fun o => wantK all regs o.guard fun b => Bool.rec (setD regs o.dst sz undefV fun regs => gapK tys all sz sc regs h n k) (gapEv tys regs sz h n (fun regs h n => gapK tys all sz sc regs h n k) o) b) = .ok r := e
    replace e := om_ok e; obtain ⟨o, ho, e⟩ := e
    rw [nth_eq] at ho
    replace e := wantK_ok e; obtain ⟨b, hb, e⟩ := e
    obtain ⟨_, hin, _, hwr, _, _⟩ := S.st.ev S.lin
    have guardKeep : ∀ {regs' : T V} {v : V}, (∀ t, regs'.get t = if o.dst = some t then some v else regs.get t) → wantB all regs' o.guard = some b := fun {regs' v} hg => by
      rw [wantB_set hg fun d hd j w hgd og hog hgo => ?_]; exact hb
      have := nodupD_ok S.dd j i og o d hog ho hgo hd
      subst this
      exact hin ((hwr o ho).2 _ _ hgd).1
    rcases rec_ok e with ⟨rfl, e⟩ | ⟨rfl, e⟩
    · cases ha : isAl tys o.op with
      | false =>
        rcases pureK_ok (P := P) HT e with ⟨v, e, hsp⟩ | e
        · replace e := setD_ok e; obtain ⟨regs', e, hdd, hg⟩ := e
          have hself : SameOn regs regs' o.op := by
            intro t ht
            rw [hg]
            by_cases he : o.dst = some t
            · exfalso
              rcases (hwr o ho).1 t ht i o ho he with ⟨h1, _⟩ | h1
              · exact hin h1
              · have hil := late_in S ho hin
                exact Prec.asymm S.lin.nodup h1 h1 (by rw [S.split]; simp [hil])
            · rw [if_neg he]
          obtain ⟨S', hF'⟩ := S.ev (n' := n) (h' := h) (al' := al) (idf' := idf) hF ho (fun d hd => hsz.symm ▸ hdd d hd) hg ((More.refl β h n).toB (Nat.le_refl n)) (fun _ _ hj => hj) (.inl ⟨rfl, rfl⟩)
            (fun o' ho' => by
              rw [ho] at ho'; cases ho'
              exact ⟨true, guardKeep hg, fun hh => (by cases hh), fun _ h1 => by rw [ha] at h1; cases h1⟩)
            (fun o' ho' _ _ => by
              rw [ho] at ho'; cases ho'
              exact ⟨regs, h, v, hsp, hself, fun _ _ hj => hj, fun d hd => by rw [hg, if_pos hd]⟩)
          exact gap_ok hsz sc regs' h n _ _ must al idf e S' hF' HH hlo
        · rw [allocK_al ha] at e; exact (bad_ne e).elim
      | true =>
        replace e : gapEv tys regs sz h n (fun regs h n => gapK tys all sz sc regs h n k) o = .ok r := e
        unfold gapEv at e
        rw [pureK_al ha] at e
        rcases allocK_ok (P := P) HT e with ⟨ob, vf, e, hsp⟩ | e
        · replace e := need_ok e; obtain ⟨hplain, e⟩ := e
          replace e := setK_ok e; obtain ⟨h1, e, hg1⟩ := e
          rw [fNat_eq] at e
          replace e := setD_ok e; obtain ⟨regs', e, hdd, hg⟩ := e
          have hself : SameOn regs regs' o.op := by
            intro t ht
            rw [hg]
            by_cases he : o.dst = some t
            · exfalso
              rcases (hwr o ho).1 t ht i o ho he with ⟨h1, _⟩ | h1
              · exact hin h1
              · have hil := late_in S ho hin
                exact Prec.asymm S.lin.nodup h1 h1 (by rw [S.split]; simp [hil])
            · rw [if_neg he]
          have hfree : β n = none := HH.free (Nat.le_refl n)
          have M : More β h n β h1 (n + 1) := ⟨Le.refl β, Nat.le_succ n, fun id hid hb => ⟨hb, fun o _ ho => by rw [hg1, if_neg (by omega)]; exact ho⟩⟩
          obtain ⟨S', hF'⟩ := S.ev (n' := n + 1) (h' := h1) (al' := i :: al) (idf' := fun y => if y = i then n else idf y) hF ho (fun d hd => hsz.symm ▸ hdd d hd) hg (M.toB (Nat.le_refl n)) (fun j x hj => by
              rw [hg1, if_neg]
              · exact hj
              · intro e; subst e; rw [HH.above _ (Nat.le_refl _)] at hj; cases hj) (.inr ⟨rfl, rfl, hlo, Nat.lt_succ_self n⟩)
            (fun o' ho' => by
              rw [ho] at ho'; cases ho'
              exact ⟨true, guardKeep hg, fun hh => (by cases hh), fun _ _ => ⟨by simp, regs, ob, vf, hsp, hself, fun d hd => by rw [hg, if_pos hd]; simp, by simp [hg1], by simp [hfree], hplain⟩⟩)
            (fun o' ho' _ h2 => by
              rw [ho] at ho'; cases ho'
              rw [ha] at h2; cases h2)
          obtain ⟨sc', regs2, h2, n2, seen', evd', must', al', idf', a1, a2, a3, a4, a5, a6, a7⟩ := gap_ok hsz sc regs' h1 (n + 1) _ _ must _ _ e S' hF' (HH.new hg1) (by omega)
          exact ⟨sc', regs2, h2, n2, seen', evd', must', al', idf', a1, a2, a3, a4, a5, a6, M.trans a7⟩
        · exact (bad_ne e).elim
    · replace e := setD_ok e; obtain ⟨regs', e, hdd, hg⟩ := e
      obtain ⟨S', hF'⟩ := S.ev (n' := n) (h' := h) (al' := al) (idf' := idf) hF ho (fun d hd => hsz.symm ▸ hdd d hd) hg ((More.refl β h n).toB (Nat.le_refl n)) (fun _ _ hj => hj) (.inl ⟨rfl, rfl⟩)
        (fun o' ho' => by
          rw [ho] at ho'; cases ho'
          exact ⟨false, guardKeep hg, fun _ d hd => by rw [hg, if_pos hd], fun hh => (by cases hh)⟩)
        (fun o' ho' hw _ => by
          rw [ho] at ho'; cases ho'
          rw [guardKeep hg] at hw; cases hw)
      exact gap_ok hsz sc regs' h n _ _ must al idf e S' hF' HH hlo
end

end Go.Mir
namespace Go.Mir
open Go Go.RowKit

section
variable {P : Program} {E : Env} {W0 : World} {f0 : Nat} {cs0 : List Frame} {B0 : Bs} {r : Rz} {lo : Nat} {all : List Oper} {L : List Nat} {last : Option Nat} {ops : Array Oper} {TT : List Item} {CS : List Frame}

/-- the operands of an operation whose turn has come -/
theorem ready_agree {P : Program} {tys : T TI} {lo n : Nat} {β : Beta} {h : T O} {regs : T V} {F : Frame} {sc : List Sc} {D l' seen evd must al : List Nat} {idf : Nat → Nat} {x : Nat} {o : Oper}
    (S : DS P tys lo n β h regs all F.tmps sc L D (x :: l') seen last evd must al idf) (ho : all[x]? = some o) {seen' : List Nat} (hw : Wr all L seen' x) {rq : T V} (hs : SameOn rq regs o.op) : Agrees β rq F.eval o.op := by
  have hxL : x ∈ L := by rw [S.split]; simp
  have notD : ∀ y, y ∈ x :: l' → ¬ Prec L y x := fun y hy hp => by
    have hyD := hp D l' S.split
    have hn := S.lin.nodup
    rw [S.split] at hn
    exact (List.nodup_append.1 hn).2.2 y hyD y hy rfl
  intro y hy
  cases y with
  | tmp t =>
    intro v hv
    rw [hs t hy] at hv
    refine S.regs t v hv fun ⟨z, hz1, hz2, oz, hoz, hzd⟩ => ?_
    rcases (hw o ho).1 t hy z oz hoz hzd with ⟨_, h1⟩ | h1
    · exact notD z hz2 h1
    · exact notD z hz2 ((S.wr z hz1 hz2).2 oz t hoz hzd x o ho hy)
  | const c => rfl
  | global g => trivial
  | func f => rfl

theorem ready_wanted {P : Program} {tys : T TI} {lo n : Nat} {β : Beta} {h : T O} {regs : T V} {tmps : Array Value} {sc : List Sc} {D l' seen evd must al : List Nat} {idf : Nat → Nat} {x : Nat} {o : Oper} {b : Bool} (ha : ops.toList = all)
    (S : DS P tys lo n β h regs all tmps sc L D (x :: l') seen last evd must al idf) (ho : all[x]? = some o) {seen' : List Nat} (hw : Wr all L seen' x) (hb : wantB all regs o.guard = some b) : Region.wanted o (yielded ops tmps) = b := by
  refine wanted_ok (β := β) ha hb fun j w oj d v hg hj hd hv => ?_
  refine S.regs d v hv fun ⟨z, hz1, hz2, oz, hoz, hzd⟩ => ?_
  have := nodupD_ok S.dd z j oz oj d hoz hj hzd hd
  subst this
  have hyD := ((hw o ho).2 _ _ hg).2 D l' S.split
  have hn := S.lin.nodup
  rw [S.split] at hn
  exact (List.nodup_append.1 hn).2.2 z hyD z hz2 rfl

theorem DS.done1 {P : Program} {tys : T TI} {lo n : Nat} {β β' : Beta} {h : T O} {regs : T V} {tmps : Array Value} {sc : List Sc} {D l' seen evd must al : List Nat} {idf : Nat → Nat} {x : Nat} {o : Oper}
    (S : DS P tys lo n β h regs all tmps sc L D (x :: l') seen last evd must al idf) (ho : all[x]? = some o) (hx : x ∈ seen) {val : Value} (hle : Le β β')
    (hd : ∀ d, o.dst = some d → d < tmps.size) (hv : ∀ d v, o.dst = some d → regs.get d = some v → conc β' v = some val)
    (hlg : ∀ y ∈ seen, y ∈ l' → LateG P tys all β' h regs al idf y) :
    DS P tys lo n β' h regs all (putT tmps o.dst val) sc L (D ++ [x]) l' seen last evd must al idf :=
  { lin := S.lin
    dd := S.dd
    split := by rw [S.split]; simp
    st := S.st
    done := fun y hy => by
      rcases List.mem_append.1 hy with h | h
      · exact S.done y h
      · have : y = x := by simpa using h
        subst this; exact hx
    late := fun y h1 h2 => S.late y h1 (List.mem_cons_of_mem _ h2)
    lastD := fun c hc => List.mem_append_left _ (S.lastD c hc)
    wr := fun y h1 h2 => S.wr y h1 (List.mem_cons_of_mem _ h2)
    lg := hlg
    al1 := S.al1
    inj := S.inj
    regs := fun t v hv' hns => by
      by_cases e : o.dst = some t
      · rw [hv t v e hv']
        have := hd t e
        simp only [putT, e]
        rw [Array.getD_eq_getD_getElem?, Array.getElem?_setIfInBounds, if_pos rfl, if_pos this]; rfl
      · rw [conc_mono hle _ _ (S.regs t v hv' fun ⟨z, h1, h2, oz, hoz, hzd⟩ => ?_)]
        · cases hod : o.dst with
          | none => rfl
          | some d =>
            have : d ≠ t := fun h => e (by rw [hod, h])
            simp only [putT]
            rw [Array.getD_eq_getD_getElem?, Array.getD_eq_getD_getElem?, Array.getElem?_setIfInBounds, if_neg this]
        · cases h2 with
          | head => rw [ho] at hoz; cases hoz; exact e hzd
          | tail _ h2 => exact hns ⟨z, h1, h2, oz, hoz, hzd⟩
    dl := fun y h1 h2 => by rw [putT_size]; exact S.dl y h1 (List.mem_cons_of_mem _ h2) }

/-- what is worked out is done, as long as it stands ahead -/
theorem late_ok {i : Fi} {t : List It} {sc : List Sc} {regs : T V} {h : T O} {n : Nat} {seen evd al : List Nat} {idf : Nat → Nat} {cs : List Fr} (ha : ops.toList = all) :
    ∀ (l D : List Nat) (β : Beta) (F : Frame) (w : World), F.mode = .run → F.todo = .inRegion ops l :: TT → FiR β i F → TodoR β t TT → StackR P E.tys f0 cs0 B0 β h lo i cs CS → HR W0 β h n w → lo ≤ n →
      DS P E.tys lo n β h regs all F.tmps sc L D l seen last evd [] al idf → FreshR P E.tys all h regs l seen [] →
      (∀ l D β F w, F.mode = .run → F.todo = .inRegion ops l :: TT → FiR β i F → TodoR β t TT → StackR P E.tys f0 cs0 B0 β h lo i cs CS → HR W0 β h n w →
        DS P E.tys lo n β h regs all F.tmps sc L D l seen last evd [] al idf → FreshR P E.tys all h regs l seen [] → (∀ x l', l = x :: l' → x ∉ seen) → Ends P W0 f0 cs0 B0 r F CS w) →
      Ends P W0 f0 cs0 B0 r F CS w
  | [], D, β, F, w, hm, hF, hfi, hT, HS, HH, hlo, S, hFr, K => K [] D β F w hm hF hfi hT HS HH S hFr (fun x l' h => by cases h)
  | x :: l', D, β, F, w, hm, hF, hfi, hT, HS, HH, hlo, S, hFr, K => by
    by_cases hx : x ∈ seen
    · obtain ⟨o, ho⟩ : ∃ o, all[x]? = some o := by
        have := S.lin.lt x (by rw [S.split]; simp)
        exact ⟨_, List.getElem?_eq_getElem this⟩
      have hox : ops[x]? = some o := by rw [getE_toList, ha]; exact ho
      have hxl : x ∈ x :: l' := by simp
      obtain ⟨hwr, hrd⟩ := S.wr x hx hxl
      obtain ⟨b, hb, hg0, hg1⟩ := S.lg x hx hxl o ho
      have hwant := ready_wanted ha S ho hwr hb
      have hdlt : ∀ d, o.dst = some d → d < F.tmps.size := fun d hd => S.dl x hx hxl o d ho hd
      have hfinish : ∀ val, F.finish val = { F with tmps := putT F.tmps o.dst val, todo := .inRegion ops l' :: TT } := fun val => finish_region hF (by rw [hox]; rfl) val
      have fresh' : FreshR P E.tys all h regs l' seen [] := fun y h1 h2 => hFr y h1 (List.mem_cons_of_mem _ h2)
      have next : ∀ β' val w', Le β β' → HR W0 β' h n w' → StackR P E.tys f0 cs0 B0 β' h lo i cs CS → (∀ d v, o.dst = some d → regs.get d = some v → conc β' v = some val) →
          (∀ y ∈ seen, y ∈ l' → LateG P E.tys all β' h regs al idf y) → Ends P W0 f0 cs0 B0 r (F.finish val) CS w' := by
        intro β' val w' hle H' HS' hv hlg
        rw [hfinish]
        exact late_ok ha l' (D ++ [x]) β' _ w' hm rfl ⟨hfi.fn, by simp [putT_size, hfi.sz], hfi.kind, hfi.defers.mono hle, hfi.round.mono hle⟩ (hT.mono hle) HS' H' hlo
          (S.done1 ho hx hle hdlt hv hlg) fresh' K
      have same : ∀ y ∈ seen, y ∈ l' → LateG P E.tys all β h regs al idf y := fun y h1 h2 => S.lg y h1 (List.mem_cons_of_mem _ h2)
      cases b with
      | false =>
        exact (next β undef w (Le.refl β) HH HS (fun d v hd hv => by rw [hg0 rfl d hd] at hv; cases hv; exact conc_undef β) same).step (r_opSkip hm hF hox hwant)
      | true =>
        cases hal : isAl E.tys o.op with
        | false =>
          have hP : PF P h regs o := by
            rcases hFr x hx hxl with h1 | h1
            · cases h1
            · exact h1 o ho hb hal
          obtain ⟨rq, hq, v, a1, a2, a3, a4⟩ := hP
          have hA := ready_agree S ho hwr a2
          obtain ⟨val, hc, hrun⟩ := a1 W0 β n w F.eval (HH.sub a3) hA
          have hrun := hrun o rfl
          have hE := next β val w (Le.refl β) HH HS (fun d u hd hu => by rw [a4 d hd] at hu; cases hu; exact hc) same
          refine hE.step (step_lone_go ?_)
          rw [stepG_oper hm hF hox hwant (fun c hc => by have := allSel_ok S.st.sel x o ho; rw [hc] at this; cases this)]
          exact apply_value hrun
        | true =>
          obtain ⟨hin, rq, ob, vf, a1, a2, a3, a4, a5, _⟩ := hg1 rfl hal
          obtain ⟨_, hlo1, hhi⟩ := S.al1 x hin
          have hA := ready_agree S ho hwr a2
          obtain ⟨room, obj, val, w', hrun, h1, h2, h3, h4, h5⟩ := a1 β w F.eval hA
          have hrun := hrun o rfl
          obtain ⟨h6, h7⟩ := h5 (upd β (idf x) ⟨w.heap.size, 0, room⟩) (idf x) (upd_le a5) upd_self
          have HA := (HH.alloc (o := ob) (b := ⟨w.heap.size, 0, room⟩) (ob := obj) hhi a5 a4 rfl h7).congr h1 h2 h3 h4
          have MB : MoreB lo β h n (upd β (idf x) ⟨w.heap.size, 0, room⟩) h n := ⟨upd_le a5, Nat.le_refl n, fun id hid hb => ⟨by
            have : id ≠ idf x := by omega
            simp [upd, this, hb], fun _ _ h => h⟩⟩
          have hE := next _ val w' (upd_le a5) HA (HS.more MB) (fun d u hd hu => by rw [a3 d hd] at hu; cases hu; exact h6) (fun y hy1 hy2 oy hoy => by
            obtain ⟨b', c1, c2, c3⟩ := S.lg y hy1 (List.mem_cons_of_mem _ hy2) oy hoy
            refine ⟨b', c1, c2, fun hb' ha' => ?_⟩
            obtain ⟨hyin, rq', ob', vf', d1, d2, d3, d4, d5, d6⟩ := c3 hb' ha'
            refine ⟨hyin, rq', ob', vf', d1, d2, d3, d4, ?_, d6⟩
            have hne : idf y ≠ idf x := fun e => by
              have := S.inj y hyin x hin e
              subst this
              have hn := S.lin.nodup
              rw [S.split] at hn
              exact (List.nodup_cons.1 (List.nodup_append.1 hn).2.1).1 hy2
            simp [upd, hne, d5])
          refine hE.step (step_lone_go ?_)
          rw [stepG_oper hm hF hox hwant (fun c hc => by rw [hc] at hal; cases hal)]
          exact apply_value hrun
    · exact K (x :: l') D β F w hm hF hfi hT HS HH S hFr (fun y l'' h => by cases h; exact hx)
end

end Go.Mir
