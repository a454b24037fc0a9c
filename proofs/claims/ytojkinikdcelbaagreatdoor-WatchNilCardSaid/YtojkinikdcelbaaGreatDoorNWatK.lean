/- The key of a row, as a call whose value is known from the memory. No statement of the program is proved here. -/
import Derived.Shelf.Strings.Builder1
import Derived.Shelf.Strings.BuilderK
import Derived.Shelf.Strings.Replace
import Derived.Shelf.LaysM
import Derived.Shelf.Strconv.Itoa3
import Derived.Test.YtojkinikdcelbaaGreatDoorProg
import Derived.Test.YtojkinikdcelbaaGreatDoorNHkE
import Derived.WalkKit
import Derived.BigCall
import Derived.Lib.OthersKept
import Derived.Lib.AppendIntMem
import Derived.Lib.ItoaLen
import Derived.Test.YtojkinikdcelbaaGreatDoorNMirAW
set_option linter.unusedSimpArgs false
set_option linter.unusedVariables false
set_option linter.defProp false
namespace Go.Proofs
open Go.Shelf
def Tryz.lays169_ren : Go.Shelf.Ren := ⟨fun | 169 => 64 | n => n, fun | 70 => 136 | 9 => 9 | 0 => 0 | 72 => 138 | 37 => 51 | 127 => 177 | 3 => 3 | 5 => 5 | n => n, fun | n => n⟩
theorem Tryz.lays169 : Go.Proofs.Lays.n169 Tryz.prog Tryz.lays169_ren := {
  mixed := by kernel_rfl
  f169 := Tryz.func64.trans (congrArg some (by kernel_rfl))
  t0 := Tryz.underlying0
  a0 := Tryz.isAgg0
  z0 := Tryz.sizeOf0
  v0 := Tryz.zeroValue0
  t3 := Tryz.underlying3
  a3 := Tryz.isAgg3
  z3 := Tryz.sizeOf3
  v3 := Tryz.zeroValue3
  t9 := Tryz.underlying9
  a9 := Tryz.isAgg9
  z9 := Tryz.sizeOf9
  v9 := Tryz.zeroValue9
  t37 := Tryz.underlying51
  a37 := Tryz.isAgg51
  z37 := Tryz.sizeOf51
  v37 := Tryz.zeroValue51
  t70 := Tryz.underlying136
  a70 := Tryz.isAgg136
  z70 := Tryz.sizeOf136
  v70 := Tryz.zeroValue136
  t72 := Tryz.underlying138
  a72 := Tryz.isAgg138
  z72 := Tryz.sizeOf138
  v72 := Tryz.zeroValue138
  t127 := Tryz.underlying177
  a127 := Tryz.isAgg177
  z127 := Tryz.sizeOf177
  v127 := Tryz.zeroValue177 }
theorem Tryz.Builder_Extra_169 : Builder.Extra Tryz.prog Tryz.lays169_ren := {
  sizeBuilder := by kernel_rfl
  liesBuilder := by kernel_rfl
  t5 := Tryz.underlying5
  a5 := Tryz.isAgg5
  z5 := Tryz.sizeOf5
  v5 := Tryz.zeroValue5
  infoByte := by kernel_rfl
  cellsByte := by kernel_rfl
  sizeByte := by kernel_rfl
  neB5 := by decide }
open Go.RowKit in
/-- (*strings.Builder).String: "String returns the accumulated string.": WHATEVER THE BUILDER HOLDS; THE FORM '_k': OVER 'Lib.IsBuilderF' (a builder that 'String()' may have read), AND WITH THE FRAME THAT REACHES ABOVE THE BUILDER: 'Lib.OthersKept': every block that is not b and is no row of uint8's stands as it stood: the iterator of a range among them. (LAID: no walk: one application.) -/
theorem Tryz.Builder_String_any_k (B b : Nat) (l : List UInt8) (w : World) (h : Lib.IsBuilderF 138 5 B b (Lib.byteCells l) w) (hBw : B ≤ w.heap.size) :
    Calls Tryz.prog 64 #[.pointer (some ⟨b, 0, none⟩)] w fun e w' => e = .returned (.string ⟨l.toArray⟩) ∧ (Lib.IsBuilderF 138 5 B b (Lib.byteCells l) w' ∧ Below B w w' ∧ Lib.OthersKept 5 (some b) w w') := Any.Builder_String_any_k Tryz.lays169 Tryz.Builder_Extra_169 B b l w h hBw
def Tryz.laysM171_ren : Go.Shelf.Ren := ⟨fun | 171 => 61 | 243 => 94 | 246 => 156 | 283 => 233 | 284 => 234 | 285 => 235 | 286 => 236 | 129 => 141 | 317 => 338 | 318 => 339 | 319 => 340 | 320 => 341 | 337 => 453 | 338 => 454 | n => n, fun | 3 => 3 | 9 => 9 | 2 => 2 | 4 => 4 | 171 => 340 | 0 => 0 | 53 => 230 | 37 => 51 | 5 => 5 | 173 => 342 | 212 => 466 | 51 => 167 | 20 => 20 | 213 => 467 | 46 => 158 | 232 => 664 | 233 => 665 | n => n, fun | 17 => 1 | 18 => 6 | 19 => 7 | n => n⟩
theorem Tryz.laysM171 : Go.Proofs.LaysM.n171 Tryz.prog Tryz.laysM171_ren := {
  mixed := by kernel_rfl
  f129 := Tryz.func141.trans (congrArg some (by kernel_rfl))
  f171 := Tryz.func61.trans (congrArg some (by kernel_rfl))
  f243 := Tryz.func94.trans (congrArg some (by kernel_rfl))
  f246 := Tryz.func156.trans (congrArg some (by kernel_rfl))
  f283 := Tryz.func233.trans (congrArg some (by kernel_rfl))
  f284 := Tryz.func234.trans (congrArg some (by kernel_rfl))
  f285 := Tryz.func235.trans (congrArg some (by kernel_rfl))
  f286 := Tryz.func236.trans (congrArg some (by kernel_rfl))
  f317 := Tryz.func338.trans (congrArg some (by kernel_rfl))
  f318 := Tryz.func339.trans (congrArg some (by kernel_rfl))
  f319 := Tryz.func340.trans (congrArg some (by kernel_rfl))
  f320 := Tryz.func341.trans (congrArg some (by kernel_rfl))
  f337 := Tryz.func453.trans (congrArg some (by kernel_rfl))
  f338 := Tryz.func454.trans (congrArg some (by kernel_rfl))
  t0 := Tryz.underlying0
  a0 := Tryz.isAgg0
  z0 := Tryz.sizeOf0
  v0 := Tryz.zeroValue0
  t2 := Tryz.underlying2
  a2 := Tryz.isAgg2
  z2 := Tryz.sizeOf2
  v2 := Tryz.zeroValue2
  t3 := Tryz.underlying3
  a3 := Tryz.isAgg3
  z3 := Tryz.sizeOf3
  v3 := Tryz.zeroValue3
  t4 := Tryz.underlying4
  a4 := Tryz.isAgg4
  z4 := Tryz.sizeOf4
  v4 := Tryz.zeroValue4
  t5 := Tryz.underlying5
  a5 := Tryz.isAgg5
  z5 := Tryz.sizeOf5
  v5 := Tryz.zeroValue5
  t9 := Tryz.underlying9
  a9 := Tryz.isAgg9
  z9 := Tryz.sizeOf9
  v9 := Tryz.zeroValue9
  t20 := Tryz.underlying20
  a20 := Tryz.isAgg20
  z20 := Tryz.sizeOf20
  v20 := Tryz.zeroValue20
  t37 := Tryz.underlying51
  a37 := Tryz.isAgg51
  z37 := Tryz.sizeOf51
  v37 := Tryz.zeroValue51
  t46 := Tryz.underlying158
  a46 := Tryz.isAgg158
  z46 := Tryz.sizeOf158
  v46 := Tryz.zeroValue158
  t51 := Tryz.underlying167
  a51 := Tryz.isAgg167
  z51 := Tryz.sizeOf167
  v51 := Tryz.zeroValue167
  t53 := Tryz.underlying230
  a53 := Tryz.isAgg230
  z53 := Tryz.sizeOf230
  v53 := Tryz.zeroValue230
  t171 := Tryz.underlying340
  a171 := Tryz.isAgg340
  z171 := Tryz.sizeOf340
  v171 := Tryz.zeroValue340
  t173 := Tryz.underlying342
  a173 := Tryz.isAgg342
  z173 := Tryz.sizeOf342
  v173 := Tryz.zeroValue342
  t212 := Tryz.underlying466
  a212 := Tryz.isAgg466
  z212 := Tryz.sizeOf466
  v212 := Tryz.zeroValue466
  t213 := Tryz.underlying467
  a213 := Tryz.isAgg467
  z213 := Tryz.sizeOf467
  t232 := Tryz.underlying664
  a232 := Tryz.isAgg664
  z232 := Tryz.sizeOf664
  v232 := Tryz.zeroValue664
  t233 := Tryz.underlying665
  a233 := Tryz.isAgg665
  z233 := Tryz.sizeOf665
  v233 := Tryz.zeroValue665
  g17 := by kernel_rfl
  g18 := by kernel_rfl
  g19 := by kernel_rfl
  i0 := by kernel_rfl
  i2 := by kernel_rfl
  i3 := by kernel_rfl
  i4 := by kernel_rfl
  i5 := by kernel_rfl
  i9 := by kernel_rfl
  i20 := by kernel_rfl
  i37 := by kernel_rfl
  i46 := by kernel_rfl
  i51 := by kernel_rfl
  i53 := by kernel_rfl
  i171 := by kernel_rfl
  i173 := by kernel_rfl
  i212 := by kernel_rfl
  i232 := by kernel_rfl
  i233 := by kernel_rfl
  m17 := by kernel_rfl
  m18 := by kernel_rfl
  m19 := by kernel_rfl }
open Go.RowKit Go.Sort Go.Lib in
/-- strconv.Itoa: "Itoa is equivalent to FormatInt(int64(i), 10).": i's DECIMAL NUMERAL ('Lib.itoa': a '-' where i is negative, then the digits), FOR EVERY int. The world behind the call: the world before it, new blocks behind the heap (the library's 'var a [24]byte'), draws. (LAID: no walk: one application.) -/
theorem Tryz.strconv_Itoa (n : Int) (h0 : -9223372036854775808 ≤ n) (h1 : n ≤ 9223372036854775807) (w : World) (htab : Lib.TabIs Tryz.prog w "internal/strconv.uint64pow10" .u64 Lib.pow10Tab) :
    Calls Tryz.prog 61 #[.int .i64 n] w fun e w' => e = .returned (.string ⟨(Lib.itoa n).toArray⟩) ∧ ∃ k os, w' = grow (w.drewN k) os := Any.strconv_Itoa Tryz.laysM171 n h0 h1 w htab
def Tryz.lays155_ren : Go.Shelf.Ren := ⟨fun | 155 => 62 | 154 => 95 | 138 => 157 | 165 => 158 | 143 => 159 | 166 => 60 | 197 => 160 | 169 => 64 | 195 => 237 | 218 => 238 | 240 => 93 | 241 => 239 | 219 => 240 | 260 => 241 | 276 => 155 | 277 => 342 | 217 => 343 | 225 => 344 | 224 => 345 | 267 => 346 | 266 => 455 | 314 => 456 | n => n, fun | 9 => 9 | 3 => 3 | 4 => 4 | 72 => 138 | 0 => 0 | 76 => 141 | 105 => 261 | 21 => 21 | 5 => 5 | 70 => 136 | 20 => 20 | 37 => 51 | 75 => 140 | 127 => 177 | 164 => 258 | 46 => 158 | 119 => 469 | 139 => 472 | 138 => 471 | 146 => 571 | 51 => 167 | 80 => 147 | n => n, fun | 1 => 0 | 3 => 2 | 4 => 3 | n => n⟩
theorem Tryz.lays155 : Go.Proofs.Lays.n155 Tryz.prog Tryz.lays155_ren := {
  mixed := by kernel_rfl
  f138 := Tryz.func157.trans (congrArg some (by kernel_rfl))
  f143 := Tryz.func159.trans (congrArg some (by kernel_rfl))
  f154 := Tryz.func95.trans (congrArg some (by kernel_rfl))
  f155 := Tryz.func62.trans (congrArg some (by kernel_rfl))
  f165 := Tryz.func158.trans (congrArg some (by kernel_rfl))
  f166 := Tryz.func60.trans (congrArg some (by kernel_rfl))
  f169 := Tryz.func64.trans (congrArg some (by kernel_rfl))
  f195 := Tryz.func237.trans (congrArg some (by kernel_rfl))
  f197 := Tryz.func160.trans (congrArg some (by kernel_rfl))
  f217 := Tryz.func343.trans (congrArg some (by kernel_rfl))
  f218 := Tryz.func238.trans (congrArg some (by kernel_rfl))
  f219 := Tryz.func240.trans (congrArg some (by kernel_rfl))
  f224 := Tryz.func345.trans (congrArg some (by kernel_rfl))
  f225 := Tryz.func344.trans (congrArg some (by kernel_rfl))
  f240 := Tryz.func93.trans (congrArg some (by kernel_rfl))
  f241 := Tryz.func239.trans (congrArg some (by kernel_rfl))
  f260 := Tryz.func241.trans (congrArg some (by kernel_rfl))
  f266 := Tryz.func455.trans (congrArg some (by kernel_rfl))
  f267 := Tryz.func346.trans (congrArg some (by kernel_rfl))
  f276 := Tryz.func155.trans (congrArg some (by kernel_rfl))
  f277 := Tryz.func342.trans (congrArg some (by kernel_rfl))
  f314 := Tryz.func456.trans (congrArg some (by kernel_rfl))
  t0 := Tryz.underlying0
  a0 := Tryz.isAgg0
  z0 := Tryz.sizeOf0
  v0 := Tryz.zeroValue0
  t3 := Tryz.underlying3
  a3 := Tryz.isAgg3
  z3 := Tryz.sizeOf3
  v3 := Tryz.zeroValue3
  t4 := Tryz.underlying4
  a4 := Tryz.isAgg4
  z4 := Tryz.sizeOf4
  v4 := Tryz.zeroValue4
  t5 := Tryz.underlying5
  a5 := Tryz.isAgg5
  z5 := Tryz.sizeOf5
  v5 := Tryz.zeroValue5
  t9 := Tryz.underlying9
  a9 := Tryz.isAgg9
  z9 := Tryz.sizeOf9
  v9 := Tryz.zeroValue9
  t20 := Tryz.underlying20
  a20 := Tryz.isAgg20
  z20 := Tryz.sizeOf20
  v20 := Tryz.zeroValue20
  t21 := Tryz.underlying21
  a21 := Tryz.isAgg21
  z21 := Tryz.sizeOf21
  v21 := Tryz.zeroValue21
  t37 := Tryz.underlying51
  a37 := Tryz.isAgg51
  z37 := Tryz.sizeOf51
  v37 := Tryz.zeroValue51
  t46 := Tryz.underlying158
  a46 := Tryz.isAgg158
  z46 := Tryz.sizeOf158
  v46 := Tryz.zeroValue158
  t51 := Tryz.underlying167
  a51 := Tryz.isAgg167
  z51 := Tryz.sizeOf167
  v51 := Tryz.zeroValue167
  t70 := Tryz.underlying136
  a70 := Tryz.isAgg136
  z70 := Tryz.sizeOf136
  v70 := Tryz.zeroValue136
  t72 := Tryz.underlying138
  a72 := Tryz.isAgg138
  z72 := Tryz.sizeOf138
  v72 := Tryz.zeroValue138
  t75 := Tryz.underlying140
  a75 := Tryz.isAgg140
  z75 := Tryz.sizeOf140
  v75 := Tryz.zeroValue140
  t76 := Tryz.underlying141
  a76 := Tryz.isAgg141
  z76 := Tryz.sizeOf141
  v76 := Tryz.zeroValue141
  t105 := Tryz.underlying261
  a105 := Tryz.isAgg261
  z105 := Tryz.sizeOf261
  v105 := Tryz.zeroValue261
  t119 := Tryz.underlying469
  a119 := Tryz.isAgg469
  z119 := Tryz.sizeOf469
  t127 := Tryz.underlying177
  a127 := Tryz.isAgg177
  z127 := Tryz.sizeOf177
  v127 := Tryz.zeroValue177
  t138 := Tryz.underlying471
  a138 := Tryz.isAgg471
  z138 := Tryz.sizeOf471
  v138 := Tryz.zeroValue471
  t139 := Tryz.underlying472
  a139 := Tryz.isAgg472
  z139 := Tryz.sizeOf472
  v139 := Tryz.zeroValue472
  t146 := Tryz.underlying571
  a146 := Tryz.isAgg571
  z146 := Tryz.sizeOf571
  v146 := Tryz.zeroValue571
  t164 := Tryz.underlying258
  a164 := Tryz.isAgg258
  z164 := Tryz.sizeOf258
  v164 := Tryz.zeroValue258
  g1 := by kernel_rfl
  g3 := by kernel_rfl
  g4 := by kernel_rfl }
theorem Tryz.Builder_Extra_155 : Builder.Extra Tryz.prog Tryz.lays155_ren := {
  sizeBuilder := by kernel_rfl
  liesBuilder := by kernel_rfl
  t5 := Tryz.underlying5
  a5 := Tryz.isAgg5
  z5 := Tryz.sizeOf5
  v5 := Tryz.zeroValue5
  infoByte := by kernel_rfl
  cellsByte := by kernel_rfl
  sizeByte := by kernel_rfl
  neB5 := by decide }
open Go.RowKit Go.Lib in
/-- strings.ReplaceAll: "ReplaceAll returns a copy of the string s with all non-overlapping instances of old replaced by new.": AT AN old THAT IS NOT EMPTY: 'Lib.replaceAll s old new'. (LAID: no walk: one application.) -/
theorem Tryz.strings_ReplaceAll (s old new : ByteArray) (m : Int) (w : World) (hs : s.size < 4294967281) (hm : w.cell? ⟨0, 0, none⟩ = some (.int .i64 m)) (h1 : 1 ≤ old.size) (hlen : s.size + Lib.countB s old * new.size ≤ 140737488355328) :
    Calls Tryz.prog 62 #[.string s, .string old, .string new] w fun e w' =>
      e = .returned (.string ⟨(Lib.replaceAll s.data.toList old.data.toList new.data.toList).toArray⟩) ∧ Below w.heap.size w w' := Any.strings_ReplaceAll Tryz.lays155 Tryz.Builder_Extra_155 s old new m w hs hm h1 hlen
def Tryz.lays167_ren : Go.Shelf.Ren := ⟨fun | 167 => 63 | 240 => 93 | 276 => 155 | n => n, fun | 0 => 0 | 3 => 3 | 4 => 4 | 5 => 5 | 9 => 9 | 20 => 20 | 37 => 51 | 70 => 136 | 72 => 138 | 75 => 140 | 80 => 147 | 164 => 258 | n => n, fun | n => n⟩
theorem Tryz.lays167 : Go.Proofs.Lays.n167 Tryz.prog Tryz.lays167_ren := {
  mixed := by kernel_rfl
  f167 := Tryz.func63.trans (congrArg some (by kernel_rfl))
  f240 := Tryz.func93.trans (congrArg some (by kernel_rfl))
  f276 := Tryz.func155.trans (congrArg some (by kernel_rfl))
  t0 := Tryz.underlying0
  a0 := Tryz.isAgg0
  z0 := Tryz.sizeOf0
  v0 := Tryz.zeroValue0
  t4 := Tryz.underlying4
  a4 := Tryz.isAgg4
  z4 := Tryz.sizeOf4
  v4 := Tryz.zeroValue4
  t5 := Tryz.underlying5
  a5 := Tryz.isAgg5
  z5 := Tryz.sizeOf5
  v5 := Tryz.zeroValue5
  t9 := Tryz.underlying9
  a9 := Tryz.isAgg9
  z9 := Tryz.sizeOf9
  v9 := Tryz.zeroValue9
  t20 := Tryz.underlying20
  a20 := Tryz.isAgg20
  z20 := Tryz.sizeOf20
  v20 := Tryz.zeroValue20
  t37 := Tryz.underlying51
  a37 := Tryz.isAgg51
  z37 := Tryz.sizeOf51
  v37 := Tryz.zeroValue51
  t70 := Tryz.underlying136
  a70 := Tryz.isAgg136
  z70 := Tryz.sizeOf136
  v70 := Tryz.zeroValue136
  t72 := Tryz.underlying138
  a72 := Tryz.isAgg138
  z72 := Tryz.sizeOf138
  v72 := Tryz.zeroValue138
  t75 := Tryz.underlying140
  a75 := Tryz.isAgg140
  z75 := Tryz.sizeOf140
  v75 := Tryz.zeroValue140
  t164 := Tryz.underlying258
  a164 := Tryz.isAgg258
  z164 := Tryz.sizeOf258
  v164 := Tryz.zeroValue258 }
theorem Tryz.Builder_Extra_167 : Builder.Extra Tryz.prog Tryz.lays167_ren := {
  sizeBuilder := by kernel_rfl
  liesBuilder := by kernel_rfl
  t5 := Tryz.underlying5
  a5 := Tryz.isAgg5
  z5 := Tryz.sizeOf5
  v5 := Tryz.zeroValue5
  infoByte := by kernel_rfl
  cellsByte := by kernel_rfl
  sizeByte := by kernel_rfl
  neB5 := by decide }
open Go.RowKit in
theorem Tryz.Builder_WriteByte_k (B b : Nat) (bs : List Value) (c : Int) (w : World) (h : Lib.IsBuilderF 138 5 B b bs w) (hlen : bs.length + 1 ≤ 140737488355328) (hBw : B ≤ w.heap.size) :
    Calls Tryz.prog 63 #[.pointer (some ⟨b, 0, none⟩), .int .u8 c] w fun e w' => e = .returned .nilIface ∧ (Lib.BuilderAtF 138 5 B b (.pointer (some ⟨b, 0, none⟩)) (bs ++ [.int .u8 c]) w' ∧ Below B w w' ∧ Lib.OthersKept 5 (some b) w w') := Any.Builder_WriteByte_k Tryz.lays167 Tryz.Builder_Extra_167 B b bs c w h hlen hBw
def Tryz.lays166_ren : Go.Shelf.Ren := ⟨fun | 166 => 60 | 240 => 93 | 276 => 155 | n => n, fun | 0 => 0 | 3 => 3 | 4 => 4 | 5 => 5 | 9 => 9 | 20 => 20 | 37 => 51 | 70 => 136 | 72 => 138 | 75 => 140 | 80 => 147 | 164 => 258 | n => n, fun | n => n⟩
theorem Tryz.lays166 : Go.Proofs.Lays.n166 Tryz.prog Tryz.lays166_ren := {
  mixed := by kernel_rfl
  f166 := Tryz.func60.trans (congrArg some (by kernel_rfl))
  f240 := Tryz.func93.trans (congrArg some (by kernel_rfl))
  f276 := Tryz.func155.trans (congrArg some (by kernel_rfl))
  t0 := Tryz.underlying0
  a0 := Tryz.isAgg0
  z0 := Tryz.sizeOf0
  v0 := Tryz.zeroValue0
  t3 := Tryz.underlying3
  a3 := Tryz.isAgg3
  z3 := Tryz.sizeOf3
  v3 := Tryz.zeroValue3
  t4 := Tryz.underlying4
  a4 := Tryz.isAgg4
  z4 := Tryz.sizeOf4
  v4 := Tryz.zeroValue4
  t9 := Tryz.underlying9
  a9 := Tryz.isAgg9
  z9 := Tryz.sizeOf9
  v9 := Tryz.zeroValue9
  t20 := Tryz.underlying20
  a20 := Tryz.isAgg20
  z20 := Tryz.sizeOf20
  v20 := Tryz.zeroValue20
  t37 := Tryz.underlying51
  a37 := Tryz.isAgg51
  z37 := Tryz.sizeOf51
  v37 := Tryz.zeroValue51
  t70 := Tryz.underlying136
  a70 := Tryz.isAgg136
  z70 := Tryz.sizeOf136
  v70 := Tryz.zeroValue136
  t72 := Tryz.underlying138
  a72 := Tryz.isAgg138
  z72 := Tryz.sizeOf138
  v72 := Tryz.zeroValue138
  t75 := Tryz.underlying140
  a75 := Tryz.isAgg140
  z75 := Tryz.sizeOf140
  v75 := Tryz.zeroValue140
  t164 := Tryz.underlying258
  a164 := Tryz.isAgg258
  z164 := Tryz.sizeOf258
  v164 := Tryz.zeroValue258 }
theorem Tryz.Builder_Extra_166 : Builder.Extra Tryz.prog Tryz.lays166_ren := {
  sizeBuilder := by kernel_rfl
  liesBuilder := by kernel_rfl
  t5 := Tryz.underlying5
  a5 := Tryz.isAgg5
  z5 := Tryz.sizeOf5
  v5 := Tryz.zeroValue5
  infoByte := by kernel_rfl
  cellsByte := by kernel_rfl
  sizeByte := by kernel_rfl
  neB5 := by decide }
open Go.RowKit in
theorem Tryz.Builder_WriteString_k (B b : Nat) (bs : List Value) (s : ByteArray) (w : World) (h : Lib.IsBuilderF 138 5 B b bs w) (hlen : bs.length + s.size ≤ 140737488355328) (hBw : B ≤ w.heap.size) :
    Calls Tryz.prog 60 #[.pointer (some ⟨b, 0, none⟩), .string s] w fun e w' => e = .returned (.tuple #[.int .i64 s.size, .nilIface]) ∧ (Lib.BuilderAtF 138 5 B b (.pointer (some ⟨b, 0, none⟩)) (bs ++ Lib.strCells s) w' ∧ Below B w w' ∧ Lib.OthersKept 5 (some b) w w') := Any.Builder_WriteString_k Tryz.lays166 Tryz.Builder_Extra_166 B b bs s w h hlen hBw
end Go.Proofs
namespace Go.Proofs
open Go.RowKit

abbrev TmK := Int × ByteArray × ByteArray
def dK : TmK := (0, ⟨#[]⟩, ⟨#[]⟩)
def keyTB (t : TmK) : List UInt8 := Lib.itoa t.1 ++ [58] ++ (Srt.escB t.2.1.data.toList ++ [0]) ++ (Srt.escB t.2.2.data.toList ++ [0])
def keyB (l : List TmK) : List UInt8 := l.flatMap keyTB
def okK (t : TmK) : Prop := -9223372036854775808 ≤ t.1 ∧ t.1 ≤ 9223372036854775807 ∧ t.2.1.size ≤ 30000 ∧ t.2.2.size ≤ 30000

theorem builder_below {T e : TypeId} {B b : Nat} {bs : List Value} {w w' : World} (h : Lib.IsBuilderF T e B b bs w) (hb : Below w.heap.size w w') : Lib.IsBuilderF T e B b bs w' := by
  have one : ∀ {p : Value}, Lib.BuilderAtF T e B b p bs w → Lib.BuilderAtF T e B b p bs w' := fun {p} h => by
    obtain ⟨hB, v, hbk, hown, hne⟩ := h
    have lt : ∀ {k : Nat} {o : Obj}, w.heap[k]? = some o → w'.heap[k]? = some o := fun {k o} hk => (hb.block k (Array.getElem?_eq_some_iff.1 hk).1).trans hk
    refine ⟨hB, v, lt hbk, ⟨hown.1, ?_⟩, hne⟩
    rcases hown.2 with hn | ⟨g, cap, cur, fz, hv, hbg, hg, rest⟩
    · exact .inl hn
    · exact .inr ⟨g, cap, cur, fz, hv, hbg, lt hg, rest⟩
  exact h.elim (fun x => .inl (one x)) fun x => .inr (one x)

theorem esc_len (s : List UInt8) : (Srt.escB s).length ≤ 2 * s.length := by
  unfold Srt.escB
  rw [Srt.replaceAll_one (by decide), Srt.replaceAll_one (by decide)]
  induction s with
  | nil => simp
  | cons b s ih =>
    rw [List.flatMap_cons, List.flatMap_append, List.length_append, List.length_cons]
    have : ((if b = 1 then [1, 1] else [b]).flatMap fun b => if b = 0 then [1, 2] else [b]).length ≤ 2 := by
      by_cases h1 : b = 1
      · subst h1; decide
      · rw [if_neg h1]
        by_cases h0 : b = 0
        · subst h0; decide
        · simp [h0]
    omega
theorem esc1_len (s : List UInt8) : (Lib.replaceAll s [1] [1, 1]).length ≤ 2 * s.length := by
  rw [Srt.replaceAll_one (by decide)]
  induction s with
  | nil => simp
  | cons b s ih =>
    rw [List.flatMap_cons, List.length_append, List.length_cons]
    have : (if b = 1 then [1, 1] else [b]).length ≤ 2 := by split <;> simp
    omega
theorem keyT_len {t : TmK} (h : okK t) : (keyTB t).length ≤ 120030 := by
  have h1 := Lib.itoa_length_le t.1 h.1 h.2.1
  have h2 := esc_len t.2.1.data.toList
  have h3 := esc_len t.2.2.data.toList
  have h4 := h.2.2.1
  have h5 := h.2.2.2
  have e1 : t.2.1.data.toList.length = t.2.1.size := rfl
  have e2 : t.2.2.data.toList.length = t.2.2.size := rfl
  simp only [keyTB, List.length_append, List.length_singleton]
  omega
theorem key_len : ∀ {l : List TmK}, (∀ t ∈ l, okK t) → (keyB l).length ≤ 120030 * l.length
  | [], _ => by simp [keyB]
  | t :: l, h => by
    have h1 := keyT_len (h t List.mem_cons_self)
    have h2 := key_len fun x hx => h x (List.mem_cons_of_mem _ hx)
    have e : keyB (t :: l) = keyTB t ++ keyB l := List.flatMap_cons
    rw [e, List.length_append, List.length_cons]; omega

theorem take_snocK {l : List TmK} {k : Nat} (h : k < l.length) : keyB (l.take (k + 1)) = keyB (l.take k) ++ keyTB (l.getD k dK) := by
  unfold keyB
  rw [List.take_add_one, List.getElem?_eq_getElem h, List.flatMap_append, List.getD_eq_getElem?_getD, List.getElem?_eq_getElem h]
  simp

theorem countB_one (s : ByteArray) (c : UInt8) : Lib.countB s ⟨#[c]⟩ ≤ s.size := by
  unfold Lib.countB
  have : Lib.count s.data.toList [c] = s.data.toList.count c := Lib.count_one _ _
  refine Nat.le_trans (Nat.le_of_eq this) (Nat.le_trans List.count_le_length (Nat.le_of_eq rfl))
theorem esc1_size {s : ByteArray} (h : s.size ≤ 30000) : (⟨(Lib.replaceAll s.data.toList [1] [1, 1]).toArray⟩ : ByteArray).size ≤ 60000 := by
  have := esc1_len s.data.toList
  have e : s.data.toList.length = s.size := rfl
  show (Lib.replaceAll s.data.toList [1] [1, 1]).toArray.size ≤ _
  rw [List.size_toArray]; omega
theorem esc_size {s : ByteArray} (h : s.size ≤ 30000) : (⟨(Srt.escB s.data.toList).toArray⟩ : ByteArray).size ≤ 60000 := by
  have := esc_len s.data.toList
  have e : s.data.toList.length = s.size := rfl
  show (Srt.escB s.data.toList).toArray.size ≤ _
  rw [List.size_toArray]; omega

/-- what the walk carries: the builder's bytes, what lay below, and the variable's block -/
def KS (B q : Nat) (x : Int) (s1 s2 : ByteArray) (w : World) (acc : List UInt8) (W : World) : Prop :=
  Lib.IsBuilderF 138 5 B B (Lib.byteCells acc) W ∧ Below B w W ∧ W.heap[q]? = some (.cells #[.int .i64 x, .string s1, .string s2] 43 (0, 0)) ∧ q ≠ B
theorem KS.below {B q : Nat} {x : Int} {s1 s2 : ByteArray} {w : World} {acc : List UInt8} {W W' : World} (h : KS B q x s1 s2 w acc W) (hb : Below W.heap.size W W') : KS B q x s1 s2 w acc W' := by
  obtain ⟨h1, h2, h3, h4⟩ := h
  have hq : q < W.heap.size := (Array.getElem?_eq_some_iff.1 h3).1
  have hs := h2.size
  refine ⟨builder_below h1 hb, h2.trans (hb.mono ?_), (hb.block q hq).trans h3, h4⟩
  rcases h1 with h | h
  all_goals
    obtain ⟨-, v, hbk, -⟩ := h
    exact Nat.le_of_lt (Array.getElem?_eq_some_iff.1 hbk).1
theorem KS.wrote {B q : Nat} {x : Int} {s1 s2 : ByteArray} {w : World} {acc acc' : List UInt8} {W W' : World} (h : KS B q x s1 s2 w acc W)
    (hA : Lib.BuilderAtF 138 5 B B (.pointer (some ⟨B, 0, none⟩)) (Lib.byteCells acc') W') (hb : Below B W W') (hk : Lib.OthersKept 5 (some B) W W') : KS B q x s1 s2 w acc' W' :=
  ⟨.inr hA, h.2.1.trans hb, hk q _ h.2.2.1 (fun e => h.2.2.2 (Option.some.inj e)) (fun c fz e => by cases e), h.2.2.2⟩
theorem KS.size {B q : Nat} {x : Int} {s1 s2 : ByteArray} {w : World} {acc : List UInt8} {W : World} (h : KS B q x s1 s2 w acc W) : B ≤ W.heap.size := by
  rcases h.1 with h | h
  all_goals
    obtain ⟨-, v, hbk, -⟩ := h
    exact Nat.le_of_lt (Array.getElem?_eq_some_iff.1 hbk).1

set_option maxHeartbeats 8000000 in
set_option maxRecDepth 1000000 in
/-- THE KEY OF A ROW -/
theorem key_walk (bk off cap : Nat) (rs : List TmK) (w : World) (m : Int) (hn : rs.length ≤ 100) (hr : ∀ t ∈ rs, okK t)
    (hbk : bk < w.heap.size)
    (hc : ∀ j, j < rs.length → w.cell? ⟨bk, off + j * 3, none⟩ = some (.int .i64 (rs.getD j dK).1) ∧ w.cell? ⟨bk, off + j * 3 + 1, none⟩ = some (.string (rs.getD j dK).2.1) ∧ w.cell? ⟨bk, off + j * 3 + 2, none⟩ = some (.string (rs.getD j dK).2.2))
    (hm : w.cell? ⟨0, 0, none⟩ = some (.int .i64 m)) (ht : Lib.TabIs Tryz.prog w "internal/strconv.uint64pow10" .u64 Lib.pow10Tab) :
    Calls Tryz.prog 40 #[.slice (some ⟨bk, off, none⟩) rs.length cap] w fun e w' => e = .returned (.string ⟨(keyB rs).toArray⟩) ∧ Below w.heap.size w w' := by
  have HC := Lib.hid hc
  have HR := Lib.hid hr
  have TB := Lib.hid (Lib.tabBelow_of_tabIs ht)
  have HM := Lib.hid hm
  clear hc hr ht hm
  go_enter Tryz.func40, Tryz.ntmps40
  go_wp2
  go_loopw [10] (fun i wr => ∃ k : Nat, k ≤ rs.length ∧ i = .int .i64 k ∧ Lib.IsBuilderF 138 5 w.heap.size w.heap.size (Lib.byteCells (keyB (rs.take k))) wr ∧ Below w.heap.size w wr) (fun i _ => rs.length - (intOf i).toNat)
  case atStart => exact ⟨0, Nat.zero_le _, rfl, Lib.IsBuilderF.of (Lib.fresh_isBuilder 138 5 w), (Below.refl _ w).alloc (Nat.le_refl _) _⟩
  case round =>
    obtain ⟨k, hk, rfl, hI, hB⟩ := hrel
    by_cases hlt : k < rs.length
    · obtain ⟨c0, c1, c2⟩ := HC.out k hlt
      have okk := HR.out (rs.getD k dK) (by rw [List.getD_eq_getElem?_getD, List.getElem?_eq_getElem hlt]; exact List.getElem_mem hlt)
      have k0 : wr.cell? ⟨bk, off + k * 3, none⟩ = some (.int .i64 (rs.getD k dK).1) := (hB.cell hbk).trans c0
      have k1 : wr.cell? ⟨bk, off + k * 3 + 1, none⟩ = some (.string (rs.getD k dK).2.1) := (hB.cell hbk).trans c1
      have k2 : wr.cell? ⟨bk, off + k * 3 + 2, none⟩ = some (.string (rs.getD k dK).2.2) := (hB.cell hbk).trans c2
      have hkI : ((k : Nat) : Int) < ((rs.length : Nat) : Int) := by omega
      have key1 : keyB (rs.take (k + 1)) = keyB (rs.take k) ++ keyTB (rs.getD k dK) := take_snocK hlt
      generalize rs.getD k dK = T at *
      obtain ⟨x, s1, s2⟩ := T
      obtain ⟨x0, x1, z1, z2⟩ := okk
      simp only at x0 x1 z1 z2 k0 k1 k2
      have KY := Lib.hid key1
      clear c0 c1 c2 HC key1
      have hBs : w.heap.size ≤ wr.heap.size := hB.size
      have hBl : w.heap.size < wr.heap.size := by
        rcases hI with h | h
        all_goals
          obtain ⟨-, v, hbk, -⟩ := h
          exact (Array.getElem?_eq_some_iff.1 hbk).1
      have K0 : KS w.heap.size wr.heap.size x s1 s2 w (keyB (rs.take k)) (wr.alloc (.cells #[.int .i64 x, .string s1, .string s2] 43)) :=
        ⟨hI.alloc _, hB.alloc hBs _, heap_alloc_new wr _, by omega⟩
      have LL : Hid ((keyB (rs.take k)).length ≤ 12003000) := by
        have h1 := key_len (l := rs.take k) (fun t ht => HR.out t (List.mem_of_mem_take ht))
        have h2 : (rs.take k).length ≤ 100 := by rw [List.length_take]; omega
        exact Nat.le_trans h1 (by omega)
      have KH := Lib.hid K0
      clear K0 HR
      go_wp2_with (go_at_call 61; refine (Tryz.strconv_Itoa _ x0 x1 _ (TB.out.on KH.out.2.1).here).mono ?_)
      rintro e W1 ⟨rfl, kk, os, hW⟩
      have K1 := Lib.hid (KH.out.below (hW ▸ Lib.below_grow _ _ (Nat.le_refl _) kk os))
      clear hW KH
      have hit := Lib.itoa_length_le x x0 x1
      have hne1 : ¬ 9223372036854775807 < (Lib.itoa x).length + 1 := by omega
      have hsz1 : ((⟨(Lib.itoa x).toArray⟩ : ByteArray) ++ ⟨#[58]⟩).size = (Lib.itoa x).length + 1 := by
        rw [ByteArray.size_append]; rfl
      have hst1 : Lib.strCells ((⟨(Lib.itoa x).toArray⟩ : ByteArray) ++ ⟨#[58]⟩) = Lib.byteCells (Lib.itoa x ++ [58]) := by
        rw [Lib.strCells_eq, ByteArray.data_append]; simp
      have S1 := Lib.hid hsz1
      have S2 := Lib.hid hst1
      clear hsz1 hst1
      go_wp2_with (go_at_call 60; refine (Tryz.Builder_WriteString_k w.heap.size w.heap.size _ _ _ K1.out.1 ?len1 K1.out.size).mono ?_)
      case len1 =>
        have := LL.out
        rw [S1.out, Lib.byteCells_length]; omega
      rintro e W2 ⟨rfl, hA, hb2, hk2⟩
      have K2 := Lib.hid (K1.out.wrote (acc' := keyB (rs.take k) ++ (Lib.itoa x ++ [58])) (by rw [Lib.byteCells_append, ← S2.out]; exact hA) hb2 hk2)
      clear hA hb2 hk2 K1 S1 S2
      have q1 : W2.cell? ⟨wr.heap.size, 1, none⟩ = some (.string s1) := by rw [Lib.cell_of_heap K2.out.2.2.1]; rfl
      have q2 : W2.cell? ⟨wr.heap.size, 2, none⟩ = some (.string s2) := by rw [Lib.cell_of_heap K2.out.2.2.1]; rfl
      have i0 : ∀ w : World, (Instr.index 144 (.agg #[.string s1, .string s2]) (.int .i64 0)).run Tryz.prog w = .ok (.string s1) w := fun _ => by kernel_rfl
      have i1 : ∀ w : World, (Instr.index 144 (.agg #[.string s1, .string s2]) (.int .i64 1)).run Tryz.prog w = .ok (.string s2) w := fun _ => by kernel_rfl
      go_wp2
      refine wp_loop_rounds 3 ?_
      rw [rounds_succ]
      go_wp2_with (go_at_call 62; refine (Tryz.strings_ReplaceAll s1 ⟨#[1]⟩ ⟨#[1, 1]⟩ m _ (by omega) ((K2.out.2.1.cell (p := ⟨0, 0, none⟩) (by simp; omega)).trans HM.out) (by decide) (by have := countB_one s1 1; have h2 : (⟨#[1, 1]⟩ : ByteArray).size = 2 := rfl; rw [h2]; omega)).mono ?_)
      rintro e W3 rfl hb3
      have K3 := Lib.hid (K2.out.below hb3)
      clear hb3 K2 q1 q2
      go_wp2_with (go_at_call 62; refine (Tryz.strings_ReplaceAll ⟨(Lib.replaceAll s1.data.toList [1] [1, 1]).toArray⟩ ⟨#[0]⟩ ⟨#[1, 2]⟩ m _ (by have := esc1_size z1; omega) ((K3.out.2.1.cell (p := ⟨0, 0, none⟩) (by simp; omega)).trans HM.out) (by decide) (by have := countB_one ⟨(Lib.replaceAll s1.data.toList [1] [1, 1]).toArray⟩ 0; have h2 : (⟨#[1, 2]⟩ : ByteArray).size = 2 := rfl; have := esc1_size z1; rw [h2]; omega)).mono ?_)
      rintro e W4 rfl hb4
      have K4 := Lib.hid (K3.out.below hb4)
      clear hb4 K3
      have E1 := Lib.hid (esc_size z1)
      go_wp2_with (go_at_call 60; refine (Tryz.Builder_WriteString_k w.heap.size w.heap.size _ ⟨(Srt.escB s1.data.toList).toArray⟩ _ K4.out.1 ?len2 K4.out.size).mono ?_)
      case len2 =>
        have := LL.out
        have := E1.out
        rw [Lib.byteCells_length]; simp only [List.length_append, List.length_singleton]; omega
      rintro e W5 ⟨rfl, hA, hb5, hk5⟩
      have K5 := Lib.hid (K4.out.wrote (acc' := keyB (rs.take k) ++ (Lib.itoa x ++ [58]) ++ Srt.escB s1.data.toList) (by rw [Lib.byteCells_append]; exact hA) hb5 hk5)
      clear hA hb5 hk5 K4
      go_wp2_with (go_at_call 63; refine (Tryz.Builder_WriteByte_k w.heap.size w.heap.size _ 0 _ K5.out.1 ?len3 K5.out.size).mono ?_)
      case len3 =>
        have := LL.out
        have : (Srt.escB s1.data.toList).length ≤ 60000 := by have := esc_len s1.data.toList; have e : s1.data.toList.length = s1.size := rfl; omega
        rw [Lib.byteCells_length]; simp only [List.length_append, List.length_singleton]; omega
      rintro e W6 ⟨rfl, hA, hb6, hk6⟩
      have K6 := Lib.hid (K5.out.wrote (acc' := keyB (rs.take k) ++ (Lib.itoa x ++ [58]) ++ Srt.escB s1.data.toList ++ [0]) (by rw [Lib.byteCells_append]; exact hA) hb6 hk6)
      clear hA hb6 hk6 K5
      go_wp2
      rw [rounds_succ]
      go_wp2_with (go_at_call 62; refine (Tryz.strings_ReplaceAll s2 ⟨#[1]⟩ ⟨#[1, 1]⟩ m _ (by omega) ((K6.out.2.1.cell (p := ⟨0, 0, none⟩) (by simp; omega)).trans HM.out) (by decide) (by have := countB_one s2 1; have h2 : (⟨#[1, 1]⟩ : ByteArray).size = 2 := rfl; rw [h2]; omega)).mono ?_)
      rintro e W7 rfl hb7
      have K7 := Lib.hid (K6.out.below hb7)
      clear hb7 K6
      go_wp2_with (go_at_call 62; refine (Tryz.strings_ReplaceAll ⟨(Lib.replaceAll s2.data.toList [1] [1, 1]).toArray⟩ ⟨#[0]⟩ ⟨#[1, 2]⟩ m _ (by have := esc1_size z2; omega) ((K7.out.2.1.cell (p := ⟨0, 0, none⟩) (by simp; omega)).trans HM.out) (by decide) (by have := countB_one ⟨(Lib.replaceAll s2.data.toList [1] [1, 1]).toArray⟩ 0; have h2 : (⟨#[1, 2]⟩ : ByteArray).size = 2 := rfl; have := esc1_size z2; rw [h2]; omega)).mono ?_)
      rintro e W8 rfl hb8
      have K8 := Lib.hid (K7.out.below hb8)
      clear hb8 K7
      have E2 := Lib.hid (esc_size z2)
      go_wp2_with (go_at_call 60; refine (Tryz.Builder_WriteString_k w.heap.size w.heap.size _ ⟨(Srt.escB s2.data.toList).toArray⟩ _ K8.out.1 ?len4 K8.out.size).mono ?_)
      case len4 =>
        have := LL.out
        have l1 : (Srt.escB s1.data.toList).length ≤ 60000 := by have := esc_len s1.data.toList; have e : s1.data.toList.length = s1.size := rfl; omega
        have := E2.out
        rw [Lib.byteCells_length]; simp only [List.length_append, List.length_singleton]; omega
      rintro e W9 ⟨rfl, hA, hb9, hk9⟩
      have K9 := Lib.hid (K8.out.wrote (acc' := keyB (rs.take k) ++ (Lib.itoa x ++ [58]) ++ Srt.escB s1.data.toList ++ [0] ++ Srt.escB s2.data.toList) (by rw [Lib.byteCells_append]; exact hA) hb9 hk9)
      clear hA hb9 hk9 K8
      go_wp2_with (go_at_call 63; refine (Tryz.Builder_WriteByte_k w.heap.size w.heap.size _ 0 _ K9.out.1 ?len5 K9.out.size).mono ?_)
      case len5 =>
        have := LL.out
        have l1 : (Srt.escB s1.data.toList).length ≤ 60000 := by have := esc_len s1.data.toList; have e : s1.data.toList.length = s1.size := rfl; omega
        have : (Srt.escB s2.data.toList).length ≤ 60000 := by have := esc_len s2.data.toList; have e : s2.data.toList.length = s2.size := rfl; omega
        rw [Lib.byteCells_length]; simp only [List.length_append, List.length_singleton]; omega
      rintro e W10 ⟨rfl, hA, hb10, hk10⟩
      have K10 := Lib.hid (K9.out.wrote (acc' := keyB (rs.take k) ++ (Lib.itoa x ++ [58]) ++ Srt.escB s1.data.toList ++ [0] ++ Srt.escB s2.data.toList ++ [0]) (by rw [Lib.byteCells_append]; exact hA) hb10 hk10)
      clear hA hb10 hk10 K9
      go_wp2
      rw [rounds_succ]
      go_wp2
      go_roundw
      case rel =>
        refine ⟨k + 1, hlt, by simp, ?_, K10.out.2.1⟩
        have h := K10.out.1
        rw [KY.out]
        simpa [keyTB] using h
      case measure =>
        simp [intOf]; omega
    · have hkI : ¬ ((k : Nat) : Int) < ((rs.length : Nat) : Int) := by omega
      have ek : rs.take k = rs := List.take_of_length_le (by omega)
      rw [ek] at hI
      have HI := Lib.hid hI
      have hsz : w.heap.size ≤ wr.heap.size := hB.size
      have HB := Lib.hid hB
      clear hI hB ek
      go_wp2_with (go_at_call 64; refine (Tryz.Builder_String_any_k w.heap.size w.heap.size (keyB rs) _ HI.out hsz).mono ?_)
      rintro e W1 rfl - b1 -
      go_wp2
      go_ret
      exact ⟨rfl, HB.out.trans b1⟩

set_option maxHeartbeats 4000000 in
set_option maxRecDepth 1000000 in
/-- THE KEY OF NO TERM -/
theorem key_walk0 (a : Option Addr) (cap : Nat) (w : World) :
    Calls Tryz.prog 40 #[.slice a 0 cap] w fun e w' => e = .returned (.string ⟨#[]⟩) ∧ Below w.heap.size w w' := by
  go_enter Tryz.func40, Tryz.ntmps40
  go_wp2
  refine wp_loop_rounds 1 ?_
  rw [rounds_succ]
  have HI := Lib.hid (Lib.IsBuilderF.of (Lib.fresh_isBuilder 138 5 w))
  have HB := Lib.hid ((Below.refl w.heap.size w).alloc (Nat.le_refl _) (.cells #[.pointer none, .slice none 0 0] 138))
  have hsz : w.heap.size ≤ (w.alloc (.cells #[.pointer none, .slice none 0 0] 138)).heap.size := HB.out.size
  go_wp2_with (go_at_call 64; refine (Tryz.Builder_String_any_k w.heap.size w.heap.size [] _ HI.out hsz).mono ?_)
  rintro e W1 ⟨rfl, -, b1, -⟩
  go_wp2
  go_ret
  exact ⟨rfl, HB.out.trans b1⟩
end Go.Proofs
namespace Go.Mir
open Go Go.Proofs Go.RowKit Go.Srt

theorem backK {l : List Nat} (h : allB l = true) : (bytesOf l).data.toList.map UInt8.toNat = l := by
  unfold bytesOf allB at *
  rw [List.toList_toArray, List.map_map]
  refine (List.map_congr_left fun b hb => ?_).trans (List.map_id l)
  have hb' : b < 256 := by simpa using List.all_eq_true.1 h b hb
  show (UInt8.ofNat b).toNat = b
  rw [UInt8.toNat_ofNat']; exact Nat.mod_eq_of_lt hb'
theorem conc_strK {β : Beta} {l : List Nat} {x : Value} (h : conc β (.str l) = some x) : allB l = true ∧ x = .string (bytesOf l) := by
  have h : (if allB l then some (Value.string (bytesOf l)) else none) = some x := h
  split at h
  · rename_i q; cases h; exact ⟨q, rfl⟩
  · cases h
theorem conc_mapK {β : Beta} {L : List UInt8} : conc β (.str (L.map UInt8.toNat)) = some (.string ⟨L.toArray⟩) := by
  have := absV_conc (w := default) (x := .string ⟨L.toArray⟩) (v := .str (L.map UInt8.toNat)) (by simp [absV])
  simpa [conc] using this

theorem tm3_some {a b c : Option V} {x : Tm} (h : tm3 a b c = some x) : a = some (.int .i64 x.1) ∧ b = some (.str x.2.1) ∧ c = some (.str x.2.2) := by
  unfold tm3 at h
  split at h
  · split at h
    · split at h
      · cases h; exact ⟨rfl, rfl, rfl⟩
      · cases h
    · cases h
  · cases h
theorem rowFrom_some {t : T V} : ∀ {m off : Nat} {l : List Tm}, rowFrom t m off = some l → l.length = m ∧ ∀ j x, l[j]? = some x → t.get (off + j * 3) = some (.int .i64 x.1) ∧ t.get (off + j * 3 + 1) = some (.str x.2.1) ∧ t.get (off + j * 3 + 2) = some (.str x.2.2)
  | 0, _, l, h => by
    cases h
    exact ⟨rfl, fun j s q => by simp at q⟩
  | m + 1, off, l, h => by
    have h : (match tm3 (t.get off) (t.get (off + 1)) (t.get (off + 1 + 1)) with
      | some x => (match rowFrom t m (off + 1 + 1 + 1) with | some l => some (x :: l) | none => none)
      | none => none) = some l := h
    split at h
    · rename_i x hx
      split at h
      · rename_i l' hl
        cases h
        obtain ⟨h1, h2⟩ := rowFrom_some hl
        refine ⟨by rw [List.length_cons, h1], fun j s' q => ?_⟩
        cases j with
        | zero =>
          have : x = s' := by simpa using q
          subst this
          have := tm3_some hx
          simpa using this
        | succ j =>
          have := h2 j s' (by simpa using q)
          rw [show off + (j + 1) * 3 = off + 1 + 1 + 1 + j * 3 by omega]; exact this
      · cases h
    · cases h

def tmB (x : Tm) : TmK := (x.1, bytesOf x.2.1, bytesOf x.2.2)
theorem keyB_N : ∀ {l : List Tm}, (∀ x ∈ l, allB x.2.1 = true ∧ allB x.2.2 = true) → (keyB (l.map tmB)).map UInt8.toNat = keyR l
  | [], _ => rfl
  | x :: l, h => by
    have ih := keyB_N (l := l) fun y hy => h y (List.mem_cons_of_mem _ hy)
    obtain ⟨h1, h2⟩ := h x List.mem_cons_self
    have e : keyB ((x :: l).map tmB) = keyTB (tmB x) ++ keyB (l.map tmB) := List.flatMap_cons
    have e2 : keyR (x :: l) = keyT x ++ keyR l := List.flatMap_cons
    rw [e, List.map_append, ih, e2]
    congr 1
    show (Lib.itoa x.1 ++ [58] ++ (Srt.escB (bytesOf x.2.1).data.toList ++ [0]) ++ (Srt.escB (bytesOf x.2.2).data.toList ++ [0])).map UInt8.toNat = _
    simp only [List.map_append, Srt.escB_N, backK h1, backK h2]
    simp [keyT, itoN]

theorem keyL_some {o : Option (List Tm)} {v : V} (h : keyL o = some v) : ∃ l, o = some l ∧ okR l ∧ v = .str (keyR l) := by
  unfold keyL at h
  cases o with
  | none => cases h
  | some l =>
    have h : (match okB l with | true => fL (keyM l) fun s => some (V.str s) | false => none) = some v := h
    cases hb : okB l with
    | false => rw [hb] at h; cases h
    | true =>
      rw [hb] at h
      have h : fL (keyM l) (fun s => some (V.str s)) = some v := h
      rw [fL_eq] at h
      cases h
      exact ⟨l, rfl, okB_iff.1 hb, by rw [keyM_eq]⟩

theorem okK_of {x : Tm} (h : okT x) : okK (tmB x) := by
  obtain ⟨h1, h2, h3, h4⟩ := h
  refine ⟨h1, h2, ?_, ?_⟩
  · show (bytesOf x.2.1).size ≤ 30000
    have : (bytesOf x.2.1).size = x.2.1.length := by simp [bytesOf, ByteArray.size]
    omega
  · show (bytesOf x.2.2).size ≤ 30000
    have : (bytesOf x.2.2).size = x.2.2.length := by simp [bytesOf, ByteArray.size]
    omega

/-- the call, of a row in a block -/
theorem keyRowCall {w : World} {blk off cap : Nat} {l : List Tm} {c : Array Value} {elem : TypeId} {frz : Nat × Nat} (L : laidP w) (ok : okR l) (hob : w.heap[blk]? = some (.cells c elem frz))
    (hc : ∀ j x, l[j]? = some x → c[off + j * 3]? = some (.int .i64 x.1) ∧ allB x.2.1 = true ∧ c[off + j * 3 + 1]? = some (.string (bytesOf x.2.1)) ∧ allB x.2.2 = true ∧ c[off + j * 3 + 2]? = some (.string (bytesOf x.2.2))) :
    ∃ val, conc noB (.str (keyR l)) = some val ∧ Calls Tryz.prog 40 #[.slice (some ⟨blk, off, none⟩) l.length cap] w fun e w' => e = .returned val ∧ Below w.heap.size w w' := by
  have hall : ∀ x ∈ l, allB x.2.1 = true ∧ allB x.2.2 = true := fun x hx => by
    obtain ⟨j, hj, rfl⟩ := List.getElem_of_mem hx
    have := hc j _ (List.getElem?_eq_getElem hj)
    exact ⟨this.2.1, this.2.2.2.1⟩
  refine ⟨.string ⟨(keyB (l.map tmB)).toArray⟩, by rw [← keyB_N hall]; exact conc_mapK, ?_⟩
  obtain ⟨⟨m, hm⟩, -⟩ := id L
  have K := key_walk blk off cap (l.map tmB) w m (by rw [List.length_map]; exact ok.1) (fun t ht => by
      obtain ⟨x, hx, rfl⟩ := List.mem_map.1 ht
      exact okK_of (ok.2 x hx)) (Array.getElem?_eq_some_iff.1 hob).1 (fun j hj => by
      rw [List.length_map] at hj
      obtain ⟨a1, -, a2, -, a3⟩ := hc j _ (List.getElem?_eq_getElem hj)
      have e : (l.map tmB).getD j Go.Proofs.dK = tmB l[j] := by
        rw [List.getD_eq_getElem?_getD, List.getElem?_map, List.getElem?_eq_getElem hj]; rfl
      rw [e]
      unfold World.cell?
      rw [hob]
      exact ⟨a1, a2, a3⟩) hm (laid_tab L (by kernel_rfl))
  rw [List.length_map] at K
  exact K

theorem keyCall {W0 w : World} {β : Beta} {m : T O} {n : Nat} {args : List V} {v : V} {vs : List Value} (h : keyHook args m = some v) (H : HR W0 β m n w) (hvs : concL β args = some vs) :
    ∃ val, conc β v = some val ∧ Calls Tryz.prog 40 vs.toArray w fun e w' => e = .returned val ∧ Below w.heap.size w w' := by
  have up : ∀ {l : List Tm} {vs : List Value}, (∃ val, conc noB (.str (keyR l)) = some val ∧ Calls Tryz.prog 40 vs.toArray w fun e w' => e = .returned val ∧ Below w.heap.size w w') →
      ∃ val, conc β (.str (keyR l)) = some val ∧ Calls Tryz.prog 40 vs.toArray w fun e w' => e = .returned val ∧ Below w.heap.size w w' := fun ⟨val, h1, h2⟩ => ⟨val, conc_mono (noB_le β) _ _ h1, h2⟩
  unfold keyHook at h
  split at h
  · rename_i v0
    obtain ⟨l, hl, ok, rfl⟩ := keyL_some h
    replace hvs : ((conc β v0).bind fun x => some [x]) = some vs := hvs
    obtain ⟨x, hx, hvs⟩ := Option.bind_eq_some_iff.1 hvs
    cases hvs
    unfold rowOfV at hl
    split at hl
    · rename_i a
      cases hl
      have hx' : x = .slice a 0 0 := by
        have hx : (if (Value.slice a 0 0).oneCell' then some (Value.slice a 0 0) else none) = some x := hx
        split at hx
        · cases hx; rfl
        · cases hx
      subst hx'
      exact ⟨.string ⟨#[]⟩, rfl, key_walk0 a 0 w⟩
    · cases hl
      obtain ⟨b, hb, rfl⟩ := Option.map_eq_some_iff.1 hx
      exact ⟨.string ⟨#[]⟩, rfl, key_walk0 _ _ w⟩
    · rename_i id off len ex k lo
      have hle : Nat.ble len lo = true := by
        cases q : Nat.ble len lo with
        | true => rfl
        | false => rw [q] at hl; cases hl
      rw [hle] at hl
      have hl : rowOfO (m.get id) off len = some l := hl
      obtain ⟨b, hb, hx⟩ := Option.bind_eq_some_iff.1 (show ((β id).bind fun b => if lo ≤ capOf b ex k then some (Value.slice (some ⟨b.blk, b.off + off, none⟩) len (capOf b ex k)) else none) = some x from hx)
      split at hx
      · cases hx
        have key : ∀ {t : T V} {M : Nat} {c : Array Value} {elem : TypeId} {frz : Nat × Nat}, rowIn t M off len = some l → w.heap[b.blk]? = some (.cells c elem frz) →
            (∀ i v, i < M → t.get i = some v → ∃ x, c[b.off + i]? = some x ∧ conc β v = some x) → ∃ val, conc β (.str (keyR l)) = some val ∧ Calls Tryz.prog 40 #[.slice (some ⟨b.blk, b.off + off, none⟩) len (capOf b ex k)] w fun e w' => e = .returned val ∧ Below w.heap.size w w' := fun {t M c elem frz} hr hob hc => by
          have hM : Nat.ble (Nat.add off (Nat.mul len 3)) M = true := by
            unfold rowIn at hr
            cases q : Nat.ble (Nat.add off (Nat.mul len 3)) M with
            | true => rfl
            | false => rw [q] at hr; cases hr
          unfold rowIn at hr
          rw [hM] at hr
          obtain ⟨rl, hget⟩ := rowFrom_some hr
          have hM' : off + len * 3 ≤ M := Nat.le_of_ble_eq_true hM
          have := keyRowCall (w := w) (blk := b.blk) (off := b.off + off) (cap := capOf b ex k) (l := l) (laid_below H.below H.laid) ok hob (fun j x hj => by
            have hjl : j < len := by rw [← rl]; exact (List.getElem?_eq_some_iff.1 hj).1
            obtain ⟨g1, g2, g3⟩ := hget j x hj
            obtain ⟨z1, y1, y2⟩ := hc _ _ (by omega) g1
            obtain ⟨z2, y3, y4⟩ := hc _ _ (by omega) g2
            obtain ⟨z3, y5, y6⟩ := hc _ _ (by omega) g3
            obtain ⟨q1, rfl⟩ := conc_strK y4
            obtain ⟨q2, rfl⟩ := conc_strK y6
            cases y2
            refine ⟨?_, q1, ?_, q2, ?_⟩
            · rw [show b.off + off + j * 3 = b.off + (off + j * 3) by omega]; exact y1
            · rw [show b.off + off + j * 3 + 1 = b.off + (off + j * 3 + 1) by omega]; exact y3
            · rw [show b.off + off + j * 3 + 2 = b.off + (off + j * 3 + 2) by omega]; exact y5)
          rw [rl] at this
          exact up (vs := [_]) this
        unfold rowOfO at hl
        split at hl
        · rename_i t M z hg
          obtain ⟨c, elem, frz, hob, _, _, _, hc⟩ := H.obj id _ b hg hb
          exact key hl hob hc
        · rename_i t M z hg
          obtain ⟨c, elem, frz, hob, hc⟩ := H.obj id _ b hg hb
          exact key hl hob hc
        · cases hl
      · cases hx
    · cases hl
  · cases h

theorem fnr40 : ∃ fn, Tryz.prog.funcs[40]? = some fn ∧ (fn.name == "runtime.NumGoroutine") = false ∧ fn.body.isNone = false := ⟨Tryz.f40, Tryz.func40, by kernel_rfl, by kernel_rfl⟩
end Go.Mir
