/- The small machine against the model: the operations that stand in a row. No statement of the program stands here. -/
import Derived.Test.YtjfhplgjlhfgeaaGreatDoorMirAN
namespace Go.Mir
open Go Go.RowKit

def OpPre (regs : T V) (op : Op) (β : Beta) (s : Sem Next) : Prop := ∃ ρ, ∃ o : Oper, Agrees β regs ρ op ∧ o.op = op ∧ s = execOp ρ o

section
variable {P : Program} {E : Env} (HE : EnvR P E) {fr : Fr} {cs : List Fr} {h : T O} {n : Nat} {regs : T V} {go : Go_} {fin : Kv} {r : V}

include HE in
theorem chainC_ok {c : Call} (e : chainC E c fr regs cs h n go fin = .ok r) : Outc P E.tys h n fr cs go fin r (OpPre regs (.call c)) := by
  obtain ⟨f, args, ts⟩ := c
  cases f with
  | value f =>
    replace e : (ev regs f fun f => evL regs args.toList fun args => callK E f args fr cs h n go fin) = .ok r := e
    replace e := ev_ok e; obtain ⟨vf, e, hf⟩ := e
    replace e := evL_ok e; obtain ⟨vs, e, hvs⟩ := e
    refine (callK_ok HE e).mono fun β s hs => ?_
    obtain ⟨ρ, o, A, ho, rfl⟩ := hs
    refine ⟨ρ f, args.toList.map ρ, hf β ρ (A f (by simp [Op.operands, Call.operands])), hvs β ρ fun x hx => A x (by simp [Op.operands, Call.operands]; exact .inr (by simpa using hx)), ?_⟩
    have : (args.toList.map ρ).toArray = args.map ρ := by rw [← Array.toList_map, Array.toArray_toList]
    rw [this]
    simp [execOp, ho, resolve, invV]
  | builtin b =>
    cases b <;> try exact (bad_ne e).elim
    replace e : (two2 ts.toList fun t t2 => need (notInt E.tys t2) (two args.toList fun s x => ev regs s fun s => ev regs x fun x => appendK E.tys h n t s x fin)) = .ok r := e
    unfold two2 at e
    split at e
    · rename_i t t2 hts
      replace e := need_ok e; obtain ⟨hn, e⟩ := e
      replace e := two_ok e; obtain ⟨s, x, hargs, e⟩ := e
      replace e := ev_ok e; obtain ⟨vs, e, hvs⟩ := e
      replace e := ev_ok e; obtain ⟨vx, e, hvx⟩ := e
      replace e := appendK_ok HE.tys hn e; obtain ⟨v, h', n', e, hsp⟩ := e
      refine .inl ⟨v, h', n', e, fun W0 β w s0 H hs => ?_⟩
      obtain ⟨ρ, o, A, ho, rfl⟩ := hs
      have ha : args = #[s, x] := by
        have := congrArg List.toArray hargs
        simpa using this
      have ht : ts = #[t, t2] := by
        have := congrArg List.toArray hts
        simpa using this
      subst ha; subst ht
      obtain ⟨val, w', β', a1, a2, a3, a4⟩ := hsp W0 β w H (ρ s) (ρ x) (hvs β ρ (A s (by simp [Op.operands, Call.operands]))) (hvx β ρ (A x (by simp [Op.operands, Call.operands]))) o.type
      refine ⟨.value val, val, w', β', ?_, .inl rfl, a2, a3, a4⟩
      simp [execOp, ho, resolve, invoke, builtin, a1]
    · exact (bad_ne e).elim
  | invoke => exact (bad_ne e).elim

include HE in
theorem mapPut_pre {t : Nat} {m x v : Operand} {op : Op} (hop : m ∈ op.operands.toList) (hop2 : x ∈ op.operands.toList) (hop3 : v ∈ op.operands.toList)
    (hx : ∀ (ρ : Operand → Value) (o : Oper), o.op = op → execOp ρ o = do Instr.mapUpdate t (ρ m) (ρ x) (ρ v); pure .skip)
    (e : (ev regs m fun m => ev regs x fun x => ev regs v fun v => mapPut E.tys h t m x (fun _ => v) v fun h _ _ => fin undefV h n) = .ok r) :
    Outc P E.tys h n fr cs go fin r (OpPre regs op) := by
  replace e := ev_ok e; obtain ⟨vm, e, hm⟩ := e
  replace e := ev_ok e; obtain ⟨vx, e, hvx⟩ := e
  replace e := ev_ok e; obtain ⟨vv, e, hv⟩ := e
  replace e := mapPut_ok (P := P) HE.tys e; obtain ⟨h', u, b, e, hsp⟩ := e
  refine .inl ⟨_, _, _, e, fun W0 β w s0 H hs => ?_⟩
  obtain ⟨ρ, o, A, ho, rfl⟩ := hs
  obtain ⟨w', a1, a2, a3⟩ := run_mapUpdate hsp H (hm β ρ (A m hop)) (hvx β ρ (A x hop2)) (hv β ρ (A v hop3))
  exact ⟨.skip, undef, w', β, by rw [hx ρ o ho]; simp [a1], .inr ⟨rfl, rfl⟩, conc_undef β, a2, a3⟩

include HE in
theorem chainK_ok {op : Op} (e : chainK E op fr regs cs h n go fin = .ok r) : Outc P E.tys h n fr cs go fin r (OpPre regs op) := by
  cases op with
  | store t a x =>
    replace e := ev_ok e; obtain ⟨va, e, ha⟩ := e
    replace e := ev_ok e; obtain ⟨vx, e, hx⟩ := e
    replace e := storeK_ok HE.tys e; obtain ⟨h', e, hsp⟩ := e
    refine .inl ⟨_, _, _, e, fun W0 β w s0 H hs => ?_⟩
    obtain ⟨ρ, o, A, ho, rfl⟩ := hs
    obtain ⟨w', a1, a2, a3⟩ := hsp W0 β n w H _ _ (ha β ρ (A a (by simp [Op.operands]))) (hx β ρ (A x (by simp [Op.operands])))
    exact ⟨.skip, undef, w', β, by simp [execOp, ho, a1], .inr ⟨rfl, rfl⟩, conc_undef β, a2, a3⟩
  | mapUpdate t m x v => exact mapPut_pre HE (by simp [Op.operands]) (by simp [Op.operands]) (by simp [Op.operands]) (fun ρ o ho => by simp [execOp, ho]) e
  | insert t m x v => exact mapPut_pre HE (by simp [Op.operands]) (by simp [Op.operands]) (by simp [Op.operands]) (fun ρ o ho => by simp [execOp, ho]) e
  | mapEntry t m x =>
    replace e := ev_ok e; obtain ⟨vm, e, hm⟩ := e
    replace e := ev_ok e; obtain ⟨vx, e, hx⟩ := e
    replace e := mapTy_ok e; obtain ⟨ti, kt, et, tk, te, hti, hk, htk, hte, e⟩ := e
    replace e := zeroV_ok e; obtain ⟨z, e, hz⟩ := e
    replace e := mapPut_ok (P := P) HE.tys e; obtain ⟨h', u, b, e, hsp⟩ := e
    obtain ⟨vz, hz1, hz2⟩ := hz P et (HE.tys _ _ hte)
    refine .inl ⟨_, _, _, e, fun W0 β w s0 H hs => ?_⟩
    obtain ⟨ρ, o, A, ho, rfl⟩ := hs
    have hmap := (HE.tys _ _ hti).map hk
    obtain ⟨w', val, a1, a2, a3, a4⟩ := run_mapEntry hsp H (hm β ρ (A m (by simp [Op.operands]))) (hx β ρ (A x (by simp [Op.operands]))) (hz2 β) (fun kt' et' hu => by
      rw [hmap] at hu; cases hu; exact hz1 w)
    exact ⟨.value val, val, w', β, by simp [execOp, ho, a1], .inl rfl, a2, a3, a4⟩
  | entryStore t m b x =>
    replace e := ev_ok e; obtain ⟨vm, e, hm⟩ := e
    replace e := ev_ok e; obtain ⟨vb, e, hb⟩ := e
    replace e := ev_ok e; obtain ⟨vx, e, hx⟩ := e
    replace e := entryPut_ok (P := P) e; obtain ⟨h', e, hsp⟩ := e
    refine .inl ⟨_, _, _, e, fun W0 β w s0 H hs => ?_⟩
    obtain ⟨ρ, o, A, ho, rfl⟩ := hs
    obtain ⟨w', a1, a2, a3⟩ := hsp W0 β n w H t _ _ _ (hm β ρ (A m (by simp [Op.operands]))) (hb β ρ (A b (by simp [Op.operands]))) (hx β ρ (A x (by simp [Op.operands])))
    exact ⟨.skip, undef, w', β, by simp [execOp, ho, a1], .inr ⟨rfl, rfl⟩, conc_undef β, a2, a3⟩
  | call c => exact chainC_ok HE e
  | _ => cases e
end

end Go.Mir
