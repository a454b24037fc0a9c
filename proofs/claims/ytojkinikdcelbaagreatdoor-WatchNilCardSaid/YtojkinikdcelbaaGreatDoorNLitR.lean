/- What the engine's take shows there. No statement of the program is proved here. -/
import Derived.Test.YtojkinikdcelbaaGreatDoorNHkE
import Derived.Test.YtojkinikdcelbaaGreatDoorNPK
set_option linter.unusedSimpArgs false
set_option linter.unusedVariables false
set_option linter.defProp false
namespace Go.Mir
open Go Go.RowKit

/-- a table of one call -/
noncomputable def subOfV (f0 : Nat) (args0 : List V) (h0 : T O) (n0 : Nat) (z : Rz) (f : Nat) (args : List V) (h : T O) (n : Nat) : Out :=
  Bool.rec (bad 302) (.ok z) (and (Nat.beq f f0) (and (sameVs args0 args) (and (Nat.beq n n0) (partB true h0 h))))
theorem subRunV_ok {P : Program} {E : Env} {f0 : Nat} {args0 : List V} {h0 : T O} {n0 : Nat} {y z : Rz} {go : Go_} (G : ∀ W0 f0 cs0 B0, Good P E.tys W0 f0 cs0 B0 go)
    (hy : enterG E.fns f0 args0 h0 n0 go = .ok y) (hz : Rz.le z y) :
    ∀ f args h n r, subOfV f0 args0 h0 n0 z f args h n = .ok r → ∃ go r', (∀ W0 f0 cs0 B0, Good P E.tys W0 f0 cs0 B0 go) ∧ Rz.le r r' ∧
      (om (E.fns.get f) fun fn => om fn.body fun body => fNat fn.ntmps fun sz => regsOf args sz fun regs => go ⟨f, sz, [], none⟩ regs [.code body] [] h n) = .ok r' := by
  intro f args h n r e
  rcases rec_ok e with ⟨hc, e⟩ | ⟨_, e⟩
  · have h1 := Bool.and_eq_true_iff.1 hc
    have h2 := Bool.and_eq_true_iff.1 h1.2
    have h3 := Bool.and_eq_true_iff.1 h2.2
    cases e
    obtain rfl := beq_of h1.1
    obtain rfl := sameVs_eq h2.1
    obtain rfl := beq_of h3.1
    exact ⟨narrow h0 go, y, fun W0 f0 cs0 B0 => narrow_ok (G W0 f0 cs0 B0), hz, (enterG_narrow (go := go) h3.2).trans hy⟩
  · exact (bad_ne e).elim
end Go.Mir
namespace Go.Mir
open Go
def r127 : O := (c1 (p 2351 0))
def r2339 : O := (.map [(.mk (.agg [(q 1), (s [104, 116, 116, 112, 58, 47, 47, 99]), (s []), (q 1), (s [104, 116, 116, 112, 58, 47, 47, 112]), (s []), (q 1), (s [104, 116, 116, 112, 58, 47, 47, 98]), (s [])]) (.mk (.agg [tt]) 0))] 1)
def r2340 : O := (.cells (nd (u 3) (nd (u 0) (nd (u 0) (nd (u 0) (l1 (u 0)) nn) (nd (u 0) nn nn)) (nd (u 0) (nd (u 2) nn nn) (nd (u 0) nn nn))) (nd (u 0) (nd (u 0) (nd (u 0) nn nn) (nd (u 0) nn nn)) (nd (u 4) (nd (u 0) nn nn) (nd (u 1) nn nn)))) 16 1)
def r2341 : O := (.cells (nd (q 2147483647) (nd (.slice 2383 0 72 .false 0 72) (l1 (.slice 2340 0 16 .true 16 16)) nn) (nd (.slice 2385 0 4 .false 0 4) nn nn)) 4 4)
def r2342 : O := (.map [(.mk (.agg [(u 2), (u 3), (u 4)]) (.mk (q 0) 0)), (.mk (.agg [(u 2), (u 1), (u 2)]) (.mk (q 1) 1)), (.mk (.agg [(u 3), (u 1), (u 3)]) (.mk (q 2) 2)), (.mk (.agg [(u 4), (u 1), (u 4)]) (.mk (q 3) 3)), (.mk (.agg [(u 1), (u 1), (u 1)]) (.mk (q 4) 4))] 5)
def r2343 : O := (.map [(.mk (.agg [(u 2), (u 0), (u 0)]) (.mk (.slice 2481 0 2 .false 0 2) 0)), (.mk (.agg [(u 0), (u 3), (u 0)]) (.mk (.slice 2406 0 1 .false 0 1) 1)), (.mk (.agg [(u 2), (u 3), (u 0)]) (.mk (.slice 2410 0 1 .false 0 1) 2)), (.mk (.agg [(u 0), (u 0), (u 4)]) (.mk (.slice 2575 0 2 .false 0 2) 3)), (.mk (.agg [(u 2), (u 0), (u 4)]) (.mk (.slice 2418 0 1 .false 0 1) 4)), (.mk (.agg [(u 0), (u 3), (u 4)]) (.mk (.slice 2422 0 1 .false 0 1) 5)), (.mk (.agg [(u 0), (u 1), (u 0)]) (.mk (.slice 2612 0 4 .false 0 4) 6)), (.mk (.agg [(u 2), (u 1), (u 0)]) (.mk (.slice 2489 0 1 .false 0 1) 7)), (.mk (.agg [(u 0), (u 0), (u 2)]) (.mk (.slice 2493 0 1 .false 0 1) 8)), (.mk (.agg [(u 2), (u 0), (u 2)]) (.mk (.slice 2497 0 1 .false 0 1) 9)), (.mk (.agg [(u 0), (u 1), (u 2)]) (.mk (.slice 2501 0 1 .false 0 1) 10)), (.mk (.agg [(u 3), (u 0), (u 0)]) (.mk (.slice 2526 0 1 .false 0 1) 11)), (.mk (.agg [(u 3), (u 1), (u 0)]) (.mk (.slice 2534 0 1 .false 0 1) 12)), (.mk (.agg [(u 0), (u 0), (u 3)]) (.mk (.slice 2538 0 1 .false 0 1) 13)), (.mk (.agg [(u 3), (u 0), (u 3)]) (.mk (.slice 2542 0 1 .false 0 1) 14)), (.mk (.agg [(u 0), (u 1), (u 3)]) (.mk (.slice 2546 0 1 .false 0 1) 15)), (.mk (.agg [(u 4), (u 0), (u 0)]) (.mk (.slice 2563 0 1 .false 0 1) 16)), (.mk (.agg [(u 4), (u 1), (u 0)]) (.mk (.slice 2571 0 1 .false 0 1) 17)), (.mk (.agg [(u 4), (u 0), (u 4)]) (.mk (.slice 2579 0 1 .false 0 1) 18)), (.mk (.agg [(u 0), (u 1), (u 4)]) (.mk (.slice 2583 0 1 .false 0 1) 19)), (.mk (.agg [(u 1), (u 0), (u 0)]) (.mk (.slice 2608 0 1 .false 0 1) 20)), (.mk (.agg [(u 1), (u 1), (u 0)]) (.mk (.slice 2616 0 1 .false 0 1) 21)), (.mk (.agg [(u 0), (u 0), (u 1)]) (.mk (.slice 2620 0 1 .false 0 1) 22)), (.mk (.agg [(u 1), (u 0), (u 1)]) (.mk (.slice 2624 0 1 .false 0 1) 23)), (.mk (.agg [(u 0), (u 1), (u 1)]) (.mk (.slice 2628 0 1 .false 0 1) 24))] 25)
def r2344 : O := (.cells (nd (.slice 2600 0 5 .false 0 5) (nd (.slice 2601 0 5 .false 0 5) (nd (.map 2343) (l1 (q 5)) nn) (nd (.map 2346) nn nn)) (nd (.map 2342) (nd (.map 2345) nn nn) (nd (.map 2347) nn nn))) 8 8)
def r2345 : O := (.map [(.mk (u 2) (.mk (q 2) 0)), (.mk (u 3) (.mk (q 1) 1)), (.mk (u 4) (.mk (q 1) 2)), (.mk (u 1) (.mk (q 1) 3))] 4)
def r2346 : O := (.map [(.mk (u 3) (.mk (q 1) 0)), (.mk (u 1) (.mk (q 4) 1))] 2)
def r2347 : O := (.map [(.mk (u 4) (.mk (q 2) 0)), (.mk (u 2) (.mk (q 1) 1)), (.mk (u 3) (.mk (q 1) 2)), (.mk (u 1) (.mk (q 1) 3))] 4)
def r2350 : O := (.cells (nd (.map 2348) (l1 (.map 2349)) nn) 2 2)
def r2351 : O := (.cells (nd (q 2147483647) (nd (q 2147483647) (nd z0 (l1 (p 2344 0)) (l1 (u 1))) (nd tt (l1 z0) nn)) (nd (q 2147483647) (nd z0 (l1 (p 2350 0)) (l1 (q 0))) (nd (p 2341 0) (l1 (.map 2339)) nn))) 13 13)
def r2383 : O := (.cells (nd (y 1) (nd (y 0) (nd (y 104) (nd (y 58) (nd (y 51) (nd (y 108) (l1 (y 8)) nn) (nd (y 47) nn nn)) (nd (y 48) (nd (y 1) (l1 (y 98)) nn) (nd (y 116) nn nn))) (nd (y 119) (nd (y 103) (nd (y 109) (l1 (y 112)) nn) (nd (y 0) nn nn)) (nd (y 55) (nd (y 116) nn nn) (nd (y 47) nn nn)))) (nd (y 116) (nd (y 47) (nd (y 111) (nd (y 115) (l1 (y 116)) nn) (nd (y 99) nn nn)) (nd (y 47) (nd (y 8) nn nn) (nd (y 58) nn nn))) (nd (y 46) (nd (y 50) (nd (y 65) (l1 (y 47)) nn) (nd (y 104) nn nn)) (nd (y 111) (nd (y 112) nn nn) (nd (y 1) nn nn))))) (nd (y 36) (nd (y 116) (nd (y 47) (nd (y 46) (nd (y 35) (l1 (y 104)) nn) (nd (y 47) nn nn)) (nd (y 50) (nd (y 0) nn nn) (nd (y 112) nn nn))) (nd (y 119) (nd (y 47) (nd (y 101) (l1 (y 58)) nn) (nd (y 8) nn nn)) (nd (y 47) (nd (y 116) nn nn) (nd (y 112) nn nn)))) (nd (y 112) (nd (y 119) (nd (y 114) (nd (y 97) (l1 (y 116)) nn) (nd (y 1) nn nn)) (nd (y 48) (nd (y 104) nn nn) (nd (y 47) nn nn))) (nd (y 119) (nd (y 48) (nd (y 115) (l1 (y 47)) nn) (nd (y 116) nn nn)) (nd (y 119) (nd (y 58) nn nn) (nd (y 0) nn nn)))))) 72 1)
def r2385 : O := (.cells (nd (q 39) (nd (q 50) (l1 (q 72)) nn) (nd (q 61) nn nn)) 4 1)
def r2575 : O := (.cells (nd (q 0) (l1 (q 3)) nn) 2 1)
def r2600 : O := (.cells (nd (u 2) (nd (u 3) (nd (u 2) (l1 (u 1)) (l1 (u 4))) (nd (u 2) (l1 (u 4)) (l1 (u 1)))) (nd (u 4) (nd (u 1) (l1 (u 3)) (l1 (u 1))) (nd (u 3) (l1 (u 1)) (l1 (u 1))))) 15 3)
def r2601 : O := (.cells (nd (y 3) (nd (y 2) (l1 (y 2)) nn) (nd (y 2) (l1 (y 2)) nn)) 5 1)
def r2612 : O := (.cells (nd (q 1) (nd (q 2) (l1 (q 4)) nn) (nd (q 3) nn nn)) 4 1)
noncomputable def hr0 : T O := T.setK (T.setK (T.setK (T.setK (T.setK (T.setK (T.setK (T.setK (T.setK (T.setK (T.setK (T.setK (T.setK (T.setK (T.setK (T.setK (T.setK (T.setK (T.setK (T.setK (ht) 127 (some r127) .nil id) 2339 (some r2339) .nil id) 2340 (some r2340) .nil id) 2341 (some r2341) .nil id) 2342 (some r2342) .nil id) 2343 (some r2343) .nil id) 2344 (some r2344) .nil id) 2345 (some r2345) .nil id) 2346 (some r2346) .nil id) 2347 (some r2347) .nil id) 2348 (some b110) .nil id) 2349 (some b110) .nil id) 2350 (some r2350) .nil id) 2351 (some r2351) .nil id) 2383 (some r2383) .nil id) 2385 (some r2385) .nil id) 2406 (some b175) .nil id) 2410 (some b175) .nil id) 2418 (some b175) .nil id) 2422 (some b175) .nil id
noncomputable def hr1 : T O := T.setK (T.setK (T.setK (T.setK (T.setK (T.setK (T.setK (T.setK (T.setK (T.setK (T.setK (T.setK (T.setK (T.setK (T.setK (T.setK (T.setK (T.setK (T.setK (T.setK (hr0) 2481 (some b499) .nil id) 2489 (some b484) .nil id) 2493 (some b484) .nil id) 2497 (some b484) .nil id) 2501 (some b484) .nil id) 2526 (some b523) .nil id) 2534 (some b523) .nil id) 2538 (some b523) .nil id) 2542 (some b523) .nil id) 2546 (some b523) .nil id) 2563 (some b560) .nil id) 2571 (some b560) .nil id) 2575 (some r2575) .nil id) 2579 (some b560) .nil id) 2583 (some b560) .nil id) 2600 (some r2600) .nil id) 2601 (some r2601) .nil id) 2608 (some b597) .nil id) 2612 (some r2612) .nil id) 2616 (some b597) .nil id
noncomputable def hr2 : T O := T.setK (T.setK (T.setK (hr1) 2620 (some b597) .nil id) 2624 (some b597) .nil id) 2628 (some b597) .nil id
noncomputable def zt : Rz := ⟨(.agg [(.int .i64 (.ofNat 0)), (.base (.slice .none 0 0)), (.bool .false), (.int .i64 (.ofNat 0)), (.str []), (.str []), (.int .i64 (.ofNat 0)), (.str []), (.str []), (.int .i64 (.ofNat 0)), (.str []), (.str []), (.int .i64 (.ofNat 0)), (.int .i64 (.ofNat 0)), (.base (.slice .none 0 0)), (.int .i64 (.ofNat 0)), (.base (.slice .none 0 0)), (.base (.slice .none 0 0)), (.int .i64 (.ofNat 5))]), hr2, 2816⟩
noncomputable def envT : Env := { ext := exts, tys, fns, scripts, subs := subsC, subF := subTwo 266 envI (subOf 172 ac hc nc zc), comb := fun _ => bad 0, hook := hook2 }
noncomputable def envO : Env := { ext := exts, tys, fns, scripts, subs := subsT, subF := subTwo 266 envI (subOfV 70 at_ ht nt zt), comb := fun _ => bad 0, hook := hook2 }
end Go.Mir
