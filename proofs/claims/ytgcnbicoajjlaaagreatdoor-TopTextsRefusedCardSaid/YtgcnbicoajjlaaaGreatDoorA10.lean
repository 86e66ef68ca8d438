/-
What is proved: 'midrangetop.TopTextsRefused' returns true for every input, and its arguments read behind the call as they read before (the tied card of the statement 'TopTextsRefused').
  Its conditions: the row's own: the ten listed package-level variables start as the program's text lays them (the card ties them to that text); nothing else is asked.
  Part 10 of 15.
-/
import Derived.Test.YtgcnbicoajjlaaaGreatDoorA6
import Derived.Test.YtgcnbicoajjlaaaGreatDoorA7
import Derived.Test.YtgcnbicoajjlaaaGreatDoorA9
import Derived.Shelf.Strings.Builder1
import Derived.Shelf.Strings.Builder2
import Derived.Shelf.Strings.OnBuilder
import Derived.Shelf.Strings.Trim
import Derived.Shelf.Small.Utf8
import Derived.Shelf.Small.Strs
import Derived.Shelf.Small.Wraps
import Derived.Shelf.Strings.BuilderF
import Derived.Shelf.Strings.BuilderK
import Derived.Shelf.Utf8.RuneCount
import Derived.Shelf.Strings.Builder2Cap
import Derived.Shelf.Strconv.Atoi
import Derived.Shelf.Strconv.Itoa0
import Derived.Shelf.Strconv.Itoa1
import Derived.Shelf.LaysM
import Derived.Shelf.Strconv.Itoa2
import Derived.Shelf.Strconv.Itoa3
import Derived.Shelf.Strconv.AtoiErrFast
import Derived.Shelf.Strconv.ParseIntEmpty
import Derived.Shelf.Strconv.AtoiFail
import Derived.Shelf.Strconv.Clone
import Derived.Shelf.Strconv.SyntaxError
import Derived.Shelf.LaysC
import Derived.Shelf.Strconv.ToError
import Derived.Shelf.Strconv.Lower
import Derived.Shelf.Strconv.ParseUint10
import Derived.Shelf.Strconv.ParseUint10Empty
import Derived.Shelf.Strconv.ParseUint10Any
import Derived.Shelf.Strconv.ParseInt10
import Derived.Shelf.Strconv.AtoiLong
import Derived.Shelf.Strconv.AtoiInnerAll
import Derived.Shelf.Strconv.RangeError
import Derived.Shelf.Strconv.ToErrorRange
import Derived.Shelf.Strconv.AtoiAll
import Derived.Shelf.Strconv.ErrVarAll
import Derived.Shelf.Strconv.ParseUintEmpty
import Derived.Shelf.Strconv.ParseUint10b64
import Derived.Shelf.Strconv.ParseUint10b32
import Derived.Shelf.Strconv.ParseUint10b16
import Derived.Shelf.Strconv.ParseUint10b8
import Derived.Shelf.Strconv.ParseUint10At
import Derived.Shelf.Strings.Search1
import Derived.Shelf.Strings.Search2
import Derived.Shelf.Strings.Search3
import Derived.Shelf.Strings.Cut
import Derived.Shelf.Strings.Count
import Derived.Shelf.Strings.Shaped
import Derived.Shelf.Strings.Prefix
import Derived.Shelf.Strings.Split
import Derived.Shelf.Strings.Replace
import Derived.Shelf.Strings.SplitShaped
import Derived.Shelf.Unicode.Decode
import Derived.Shelf.Strings.Runes
import Derived.Shelf.Strings.RuneCount
import Derived.Shelf.Strings.AsciiSet
import Derived.Shelf.Strings.Explode
import Derived.Shelf.Bits.Mul64
import Derived.Shelf.Strings.Repeat
import Derived.Shelf.Unicode.DecodeSlow
import Derived.Shelf.Unicode.DecodeAny
import Derived.Shelf.Strings.BuilderCap
import Derived.Shelf.Slices.Turned
import Derived.Test.YtgcnbicoajjlaaaGreatDoorProg
import Derived.Below
import Derived.Lib.SplitLaws
import Derived.Lib.AtoiErrMem
set_option linter.unusedSectionVars false
set_option linter.unusedVariables false
set_option linter.unusedSimpArgs false
section
namespace Go.Proofs
open Go.Shelf
def Tryz.lays156_ren : Go.Shelf.Ren := ⟨fun | 156 => 18 | 165 => 35 | 166 => 36 | 169 => 37 | 240 => 71 | 241 => 72 | 276 => 106 | 277 => 107 | n => n, fun | 31 => 54 | 9 => 9 | 3 => 3 | 4 => 4 | 0 => 0 | 20 => 20 | 72 => 86 | 76 => 90 | 70 => 83 | 37 => 84 | 75 => 89 | 127 => 123 | 164 => 149 | 5 => 5 | 80 => 92 | n => n, fun | n => n⟩
theorem Tryz.lays156 : Go.Proofs.Lays.n156 Tryz.prog Tryz.lays156_ren := {
  mixed := by kernel_rfl
  f156 := Tryz.func18.trans (congrArg some (by kernel_rfl))
  f165 := Tryz.func35.trans (congrArg some (by kernel_rfl))
  f166 := Tryz.func36.trans (congrArg some (by kernel_rfl))
  f169 := Tryz.func37.trans (congrArg some (by kernel_rfl))
  f240 := Tryz.func71.trans (congrArg some (by kernel_rfl))
  f241 := Tryz.func72.trans (congrArg some (by kernel_rfl))
  f276 := Tryz.func106.trans (congrArg some (by kernel_rfl))
  f277 := Tryz.func107.trans (congrArg some (by kernel_rfl))
  t0 := Tryz.underlying0
  a0 := Tryz.isAgg0
  z0 := Tryz.sizeOf0
  v0 := Tryz.zeroValue0
  t3 := Tryz.underlying3
  a3 := Tryz.isAgg3
  z3 := Tryz.sizeOf3
  v3 := Tryz.zeroValue3
  t4 := Tryz.underlying4
  a4 := Tryz.isAgg4
  z4 := Tryz.sizeOf4
  v4 := Tryz.zeroValue4
  t9 := Tryz.underlying9
  a9 := Tryz.isAgg9
  z9 := Tryz.sizeOf9
  v9 := Tryz.zeroValue9
  t20 := Tryz.underlying20
  a20 := Tryz.isAgg20
  z20 := Tryz.sizeOf20
  v20 := Tryz.zeroValue20
  t31 := Tryz.underlying54
  a31 := Tryz.isAgg54
  z31 := Tryz.sizeOf54
  v31 := Tryz.zeroValue54
  t37 := Tryz.underlying84
  a37 := Tryz.isAgg84
  z37 := Tryz.sizeOf84
  v37 := Tryz.zeroValue84
  t70 := Tryz.underlying83
  a70 := Tryz.isAgg83
  z70 := Tryz.sizeOf83
  v70 := Tryz.zeroValue83
  t72 := Tryz.underlying86
  a72 := Tryz.isAgg86
  z72 := Tryz.sizeOf86
  v72 := Tryz.zeroValue86
  t75 := Tryz.underlying89
  a75 := Tryz.isAgg89
  z75 := Tryz.sizeOf89
  v75 := Tryz.zeroValue89
  t76 := Tryz.underlying90
  a76 := Tryz.isAgg90
  z76 := Tryz.sizeOf90
  v76 := Tryz.zeroValue90
  t127 := Tryz.underlying123
  a127 := Tryz.isAgg123
  z127 := Tryz.sizeOf123
  v127 := Tryz.zeroValue123
  t164 := Tryz.underlying149
  a164 := Tryz.isAgg149
  z164 := Tryz.sizeOf149
  v164 := Tryz.zeroValue149 }
theorem Tryz.Builder_Extra_156 : Builder.Extra Tryz.prog Tryz.lays156_ren := {
  sizeBuilder := by kernel_rfl
  liesBuilder := by kernel_rfl
  t5 := Tryz.underlying5
  a5 := Tryz.isAgg5
  z5 := Tryz.sizeOf5
  v5 := Tryz.zeroValue5
  infoByte := by kernel_rfl
  cellsByte := by kernel_rfl
  sizeByte := by kernel_rfl
  neB5 := by decide }
open Go.RowKit in
theorem Tryz.strings_Join_none (a : Option Addr) (c : Nat) (sep : ByteArray) (w : World) :
    Calls Tryz.prog 18 #[.slice a 0 c, .string sep] w fun e w' => e = .returned (.string ⟨#[]⟩) ∧ w' = w := Any.strings_Join_none Tryz.lays156 Tryz.Builder_Extra_156 a c sep w
open Go.RowKit in
theorem Tryz.strings_Join (bk o c : Nat) (xs : List ByteArray) (sep : ByteArray) (w : World) (hcells : ∀ (j : Nat) x, xs[j]? = some x → w.cell? ⟨bk, o + j, none⟩ = some (.string x)) (hbk : bk < w.heap.size) (hN : xs.length ≤ 140737488355328) (hcap : xs.length ≤ c) (hlen : (Lib.join (xs.map (·.data.toList)) sep.data.toList).length ≤ 140737488355328) :
    Calls Tryz.prog 18 #[.slice (some ⟨bk, o, none⟩) xs.length c, .string sep] w fun e w' => e = .returned (.string ⟨(Lib.join (xs.map (·.data.toList)) sep.data.toList).toArray⟩) ∧ Below w.heap.size w w' := Any.strings_Join Tryz.lays156 Tryz.Builder_Extra_156 bk o c xs sep w hcells hbk hN hcap hlen
def Tryz.lays161_ren : Go.Shelf.Ren := ⟨fun | 161 => 141 | 231 => 161 | 227 => 162 | 233 => 163 | 235 => 164 | 228 => 171 | 197 => 132 | 151 => 172 | 260 => 154 | 152 => 175 | 137 => 143 | 119 => 176 | 224 => 111 | 225 => 110 | 217 => 109 | 266 => 137 | n => n, fun | 9 => 9 | 4 => 4 | 3 => 3 | 5 => 5 | 117 => 196 | 116 => 195 | 0 => 0 | 124 => 199 | 105 => 166 | 21 => 21 | 119 => 205 | 46 => 122 | 139 => 208 | 138 => 207 | n => n, fun | 3 => 7 | 4 => 8 | n => n⟩
theorem Tryz.lays161 : Go.Proofs.Lays.n161 Tryz.prog Tryz.lays161_ren := {
  mixed := by kernel_rfl
  f119 := Tryz.func176.trans (congrArg some (by kernel_rfl))
  f137 := Tryz.func143.trans (congrArg some (by kernel_rfl))
  f151 := Tryz.func172.trans (congrArg some (by kernel_rfl))
  f152 := Tryz.func175.trans (congrArg some (by kernel_rfl))
  f161 := Tryz.func141.trans (congrArg some (by kernel_rfl))
  f197 := Tryz.func132.trans (congrArg some (by kernel_rfl))
  f217 := Tryz.func109.trans (congrArg some (by kernel_rfl))
  f224 := Tryz.func111.trans (congrArg some (by kernel_rfl))
  f225 := Tryz.func110.trans (congrArg some (by kernel_rfl))
  f227 := Tryz.func162.trans (congrArg some (by kernel_rfl))
  f228 := Tryz.func171.trans (congrArg some (by kernel_rfl))
  f231 := Tryz.func161.trans (congrArg some (by kernel_rfl))
  f233 := Tryz.func163.trans (congrArg some (by kernel_rfl))
  f235 := Tryz.func164.trans (congrArg some (by kernel_rfl))
  f260 := Tryz.func154.trans (congrArg some (by kernel_rfl))
  f266 := Tryz.func137.trans (congrArg some (by kernel_rfl))
  t0 := Tryz.underlying0
  a0 := Tryz.isAgg0
  z0 := Tryz.sizeOf0
  v0 := Tryz.zeroValue0
  t3 := Tryz.underlying3
  a3 := Tryz.isAgg3
  z3 := Tryz.sizeOf3
  v3 := Tryz.zeroValue3
  t4 := Tryz.underlying4
  a4 := Tryz.isAgg4
  z4 := Tryz.sizeOf4
  v4 := Tryz.zeroValue4
  t5 := Tryz.underlying5
  a5 := Tryz.isAgg5
  z5 := Tryz.sizeOf5
  v5 := Tryz.zeroValue5
  t9 := Tryz.underlying9
  a9 := Tryz.isAgg9
  z9 := Tryz.sizeOf9
  v9 := Tryz.zeroValue9
  t21 := Tryz.underlying21
  a21 := Tryz.isAgg21
  z21 := Tryz.sizeOf21
  v21 := Tryz.zeroValue21
  t46 := Tryz.underlying122
  a46 := Tryz.isAgg122
  z46 := Tryz.sizeOf122
  v46 := Tryz.zeroValue122
  t105 := Tryz.underlying166
  a105 := Tryz.isAgg166
  z105 := Tryz.sizeOf166
  v105 := Tryz.zeroValue166
  t116 := Tryz.underlying195
  a116 := Tryz.isAgg195
  z116 := Tryz.sizeOf195
  t117 := Tryz.underlying196
  a117 := Tryz.isAgg196
  z117 := Tryz.sizeOf196
  v117 := Tryz.zeroValue196
  t119 := Tryz.underlying205
  a119 := Tryz.isAgg205
  z119 := Tryz.sizeOf205
  t124 := Tryz.underlying199
  a124 := Tryz.isAgg199
  z124 := Tryz.sizeOf199
  v124 := Tryz.zeroValue199
  t138 := Tryz.underlying207
  a138 := Tryz.isAgg207
  z138 := Tryz.sizeOf207
  v138 := Tryz.zeroValue207
  t139 := Tryz.underlying208
  a139 := Tryz.isAgg208
  z139 := Tryz.sizeOf208
  v139 := Tryz.zeroValue208
  g3 := by kernel_rfl
  g4 := by kernel_rfl }
open Go.RowKit in
theorem Tryz.strings_TrimLeft_one (s : ByteArray) (c : UInt8) (hc : c.toNat < 128) (w : World) :
    Calls Tryz.prog 141 #[.string s, .string ⟨#[c]⟩] w fun e w' => e = .returned (.string ⟨(Lib.trimLeftB s.data.toList c).toArray⟩) ∧ w' = w := Any.strings_TrimLeft_one Tryz.lays161 s c hc w
def Tryz.lays137_ren : Go.Shelf.Ren := ⟨fun | 137 => 143 | 217 => 109 | 266 => 137 | n => n, fun | 9 => 9 | 5 => 5 | 3 => 3 | n => n, fun | n => n⟩
theorem Tryz.lays137 : Go.Proofs.Lays.n137 Tryz.prog Tryz.lays137_ren := {
  mixed := by kernel_rfl
  f137 := Tryz.func143.trans (congrArg some (by kernel_rfl))
  f217 := Tryz.func109.trans (congrArg some (by kernel_rfl))
  f266 := Tryz.func137.trans (congrArg some (by kernel_rfl))
  t3 := Tryz.underlying3
  a3 := Tryz.isAgg3
  z3 := Tryz.sizeOf3
  v3 := Tryz.zeroValue3
  t5 := Tryz.underlying5
  a5 := Tryz.isAgg5
  z5 := Tryz.sizeOf5
  v5 := Tryz.zeroValue5
  t9 := Tryz.underlying9
  a9 := Tryz.isAgg9
  z9 := Tryz.sizeOf9
  v9 := Tryz.zeroValue9 }
open Go.RowKit in
theorem Tryz.strings_IndexByte (s : ByteArray) (c : Int) (w : World) :
    Calls Tryz.prog 143 #[.string s, .int .u8 c] w fun e w' => e = .returned (.int .i64 (Lib.indexByte s.data.toList c.toNat.toUInt8)) ∧ w' = w := Any.strings_IndexByte Tryz.lays137 s c w
def Tryz.lays103_ren : Go.Shelf.Ren := ⟨fun | 103 => 42 | 210 => 77 | 206 => 41 | n => n, fun | 9 => 9 | 4 => 4 | 24 => 93 | 3 => 3 | n => n, fun | n => n⟩
theorem Tryz.lays103 : Go.Proofs.Lays.n103 Tryz.prog Tryz.lays103_ren := {
  mixed := by kernel_rfl
  f103 := Tryz.func42.trans (congrArg some (by kernel_rfl))
  f206 := Tryz.func41.trans (congrArg some (by kernel_rfl))
  f210 := Tryz.func77.trans (congrArg some (by kernel_rfl))
  t3 := Tryz.underlying3
  a3 := Tryz.isAgg3
  z3 := Tryz.sizeOf3
  v3 := Tryz.zeroValue3
  t4 := Tryz.underlying4
  a4 := Tryz.isAgg4
  z4 := Tryz.sizeOf4
  v4 := Tryz.zeroValue4
  t9 := Tryz.underlying9
  a9 := Tryz.isAgg9
  z9 := Tryz.sizeOf9
  v9 := Tryz.zeroValue9
  t24 := Tryz.underlying93
  a24 := Tryz.isAgg93
  z24 := Tryz.sizeOf93
  v24 := Tryz.zeroValue93 }
open Go.RowKit in
theorem Tryz.strings_CutPrefix (s p : ByteArray) (w : World) :
    Calls Tryz.prog 42 #[.string s, .string p] w fun e w' => e = .returned (.tuple #[.string ⟨(Lib.trimPrefix s.data.toList p.data.toList).toArray⟩, .bool (Lib.hasPrefix s.data.toList p.data.toList)]) ∧ w' = w := Any.strings_CutPrefix Tryz.lays103 s p w
def Tryz.lays104_ren : Go.Shelf.Ren := ⟨fun | 104 => 79 | 211 => 113 | 207 => 139 | n => n, fun | 9 => 9 | 4 => 4 | 24 => 93 | 3 => 3 | n => n, fun | n => n⟩
theorem Tryz.lays104 : Go.Proofs.Lays.n104 Tryz.prog Tryz.lays104_ren := {
  mixed := by kernel_rfl
  f104 := Tryz.func79.trans (congrArg some (by kernel_rfl))
  f207 := Tryz.func139.trans (congrArg some (by kernel_rfl))
  f211 := Tryz.func113.trans (congrArg some (by kernel_rfl))
  t3 := Tryz.underlying3
  a3 := Tryz.isAgg3
  z3 := Tryz.sizeOf3
  v3 := Tryz.zeroValue3
  t4 := Tryz.underlying4
  a4 := Tryz.isAgg4
  z4 := Tryz.sizeOf4
  v4 := Tryz.zeroValue4
  t9 := Tryz.underlying9
  a9 := Tryz.isAgg9
  z9 := Tryz.sizeOf9
  v9 := Tryz.zeroValue9
  t24 := Tryz.underlying93
  a24 := Tryz.isAgg93
  z24 := Tryz.sizeOf93
  v24 := Tryz.zeroValue93 }
open Go.RowKit in
theorem Tryz.strings_CutSuffix (s p : ByteArray) (w : World) (hs : s.size ≤ 9223372036854775807) :
    Calls Tryz.prog 79 #[.string s, .string p] w fun e w' => e = .returned (.tuple #[.string ⟨(Lib.trimSuffix s.data.toList p.data.toList).toArray⟩, .bool (Lib.hasSuffix s.data.toList p.data.toList)]) ∧ w' = w := Any.strings_CutSuffix Tryz.lays104 s p w hs
def Tryz.laysM171_ren : Go.Shelf.Ren := ⟨fun | 171 => 34 | 243 => 70 | 246 => 105 | 283 => 133 | 284 => 134 | 285 => 135 | 286 => 136 | 129 => 156 | 317 => 155 | 318 => 157 | 319 => 158 | 320 => 159 | 337 => 168 | 338 => 169 | n => n, fun | 3 => 3 | 9 => 9 | 2 => 2 | 4 => 4 | 171 => 168 | 0 => 0 | 53 => 169 | 37 => 84 | 5 => 5 | 173 => 172 | 212 => 189 | 51 => 174 | 20 => 20 | 213 => 190 | 46 => 122 | 232 => 216 | 233 => 217 | n => n, fun | 17 => 4 | 18 => 9 | 19 => 10 | n => n⟩
theorem Tryz.laysM171 : Go.Proofs.LaysM.n171 Tryz.prog Tryz.laysM171_ren := {
  mixed := by kernel_rfl
  f129 := Tryz.func156.trans (congrArg some (by kernel_rfl))
  f171 := Tryz.func34.trans (congrArg some (by kernel_rfl))
  f243 := Tryz.func70.trans (congrArg some (by kernel_rfl))
  f246 := Tryz.func105.trans (congrArg some (by kernel_rfl))
  f283 := Tryz.func133.trans (congrArg some (by kernel_rfl))
  f284 := Tryz.func134.trans (congrArg some (by kernel_rfl))
  f285 := Tryz.func135.trans (congrArg some (by kernel_rfl))
  f286 := Tryz.func136.trans (congrArg some (by kernel_rfl))
  f317 := Tryz.func155.trans (congrArg some (by kernel_rfl))
  f318 := Tryz.func157.trans (congrArg some (by kernel_rfl))
  f319 := Tryz.func158.trans (congrArg some (by kernel_rfl))
  f320 := Tryz.func159.trans (congrArg some (by kernel_rfl))
  f337 := Tryz.func168.trans (congrArg some (by kernel_rfl))
  f338 := Tryz.func169.trans (congrArg some (by kernel_rfl))
  t0 := Tryz.underlying0
  a0 := Tryz.isAgg0
  z0 := Tryz.sizeOf0
  v0 := Tryz.zeroValue0
  t2 := Tryz.underlying2
  a2 := Tryz.isAgg2
  z2 := Tryz.sizeOf2
  v2 := Tryz.zeroValue2
  t3 := Tryz.underlying3
  a3 := Tryz.isAgg3
  z3 := Tryz.sizeOf3
  v3 := Tryz.zeroValue3
  t4 := Tryz.underlying4
  a4 := Tryz.isAgg4
  z4 := Tryz.sizeOf4
  v4 := Tryz.zeroValue4
  t5 := Tryz.underlying5
  a5 := Tryz.isAgg5
  z5 := Tryz.sizeOf5
  v5 := Tryz.zeroValue5
  t9 := Tryz.underlying9
  a9 := Tryz.isAgg9
  z9 := Tryz.sizeOf9
  v9 := Tryz.zeroValue9
  t20 := Tryz.underlying20
  a20 := Tryz.isAgg20
  z20 := Tryz.sizeOf20
  v20 := Tryz.zeroValue20
  t37 := Tryz.underlying84
  a37 := Tryz.isAgg84
  z37 := Tryz.sizeOf84
  v37 := Tryz.zeroValue84
  t46 := Tryz.underlying122
  a46 := Tryz.isAgg122
  z46 := Tryz.sizeOf122
  v46 := Tryz.zeroValue122
  t51 := Tryz.underlying174
  a51 := Tryz.isAgg174
  z51 := Tryz.sizeOf174
  v51 := Tryz.zeroValue174
  t53 := Tryz.underlying169
  a53 := Tryz.isAgg169
  z53 := Tryz.sizeOf169
  v53 := Tryz.zeroValue169
  t171 := Tryz.underlying168
  a171 := Tryz.isAgg168
  z171 := Tryz.sizeOf168
  v171 := Tryz.zeroValue168
  t173 := Tryz.underlying172
  a173 := Tryz.isAgg172
  z173 := Tryz.sizeOf172
  v173 := Tryz.zeroValue172
  t212 := Tryz.underlying189
  a212 := Tryz.isAgg189
  z212 := Tryz.sizeOf189
  v212 := Tryz.zeroValue189
  t213 := Tryz.underlying190
  a213 := Tryz.isAgg190
  z213 := Tryz.sizeOf190
  t232 := Tryz.underlying216
  a232 := Tryz.isAgg216
  z232 := Tryz.sizeOf216
  v232 := Tryz.zeroValue216
  t233 := Tryz.underlying217
  a233 := Tryz.isAgg217
  z233 := Tryz.sizeOf217
  v233 := Tryz.zeroValue217
  g17 := by kernel_rfl
  g18 := by kernel_rfl
  g19 := by kernel_rfl
  i0 := by kernel_rfl
  i2 := by kernel_rfl
  i3 := by kernel_rfl
  i4 := by kernel_rfl
  i5 := by kernel_rfl
  i9 := by kernel_rfl
  i20 := by kernel_rfl
  i37 := by kernel_rfl
  i46 := by kernel_rfl
  i51 := by kernel_rfl
  i53 := by kernel_rfl
  i171 := by kernel_rfl
  i173 := by kernel_rfl
  i212 := by kernel_rfl
  i232 := by kernel_rfl
  i233 := by kernel_rfl
  m17 := by kernel_rfl
  m18 := by kernel_rfl
  m19 := by kernel_rfl }
open Go.RowKit Go.Sort Go.Lib in
theorem Tryz.strconv_Itoa (n : Int) (h0 : -9223372036854775808 ≤ n) (h1 : n ≤ 9223372036854775807) (w : World) (htab : Lib.TabIs Tryz.prog w "internal/strconv.uint64pow10" .u64 Lib.pow10Tab) :
    Calls Tryz.prog 34 #[.int .i64 n] w fun e w' => e = .returned (.string ⟨(Lib.itoa n).toArray⟩) ∧ ∃ k os, w' = grow (w.drewN k) os := Any.strconv_Itoa Tryz.laysM171 n h0 h1 w htab
def Tryz.laysC172_ren : Go.Shelf.Ren := ⟨fun | 172 => 82 | 244 => 120 | 245 => 121 | 247 => 146 | 279 => 147 | 280 => 148 | 281 => 149 | 282 => 150 | 287 => 165 | 316 => 166 | 171 => 34 | 205 => 167 | 321 => 173 | 322 => 174 | 243 => 70 | 246 => 105 | 283 => 133 | 284 => 134 | 285 => 135 | 286 => 136 | 129 => 156 | 317 => 155 | 318 => 157 | 319 => 158 | 320 => 159 | 337 => 168 | 338 => 169 | n => n, fun | 9 => 9 | 3 => 3 | 75 => 89 | 76 => 90 | 4 => 4 | 5 => 5 | 167 => 180 | 37 => 84 | 0 => 0 | 85 => 181 | 2 => 2 | 168 => 183 | 53 => 169 | 175 => 200 | 46 => 122 | 210 => 203 | 127 => 123 | 145 => 215 | 143 => 213 | 21 => 21 | 171 => 168 | 173 => 172 | 212 => 189 | 51 => 174 | 20 => 20 | 213 => 190 | 232 => 216 | 233 => 217 | 80 => 92 | n => n, fun | 15 => 5 | 16 => 6 | 17 => 4 | 18 => 9 | 19 => 10 | n => n⟩
theorem Tryz.laysC172 : Go.Proofs.LaysC.n172 Tryz.prog Tryz.laysC172_ren := {
  mixed := by kernel_rfl
  f129 := Tryz.func156.trans (congrArg some (by kernel_rfl))
  f171 := Tryz.func34.trans (congrArg some (by kernel_rfl))
  f172 := Tryz.func82.trans (congrArg some (by kernel_rfl))
  f205 := Tryz.func167.trans (congrArg some (by kernel_rfl))
  f243 := Tryz.func70.trans (congrArg some (by kernel_rfl))
  f244 := Tryz.func120.trans (congrArg some (by kernel_rfl))
  f245 := Tryz.func121.trans (congrArg some (by kernel_rfl))
  f246 := Tryz.func105.trans (congrArg some (by kernel_rfl))
  f247 := Tryz.func146.trans (congrArg some (by kernel_rfl))
  f279 := Tryz.func147.trans (congrArg some (by kernel_rfl))
  f280 := Tryz.func148.trans (congrArg some (by kernel_rfl))
  f281 := Tryz.func149.trans (congrArg some (by kernel_rfl))
  f282 := Tryz.func150.trans (congrArg some (by kernel_rfl))
  f283 := Tryz.func133.trans (congrArg some (by kernel_rfl))
  f284 := Tryz.func134.trans (congrArg some (by kernel_rfl))
  f285 := Tryz.func135.trans (congrArg some (by kernel_rfl))
  f286 := Tryz.func136.trans (congrArg some (by kernel_rfl))
  f287 := Tryz.func165.trans (congrArg some (by kernel_rfl))
  f316 := Tryz.func166.trans (congrArg some (by kernel_rfl))
  f317 := Tryz.func155.trans (congrArg some (by kernel_rfl))
  f318 := Tryz.func157.trans (congrArg some (by kernel_rfl))
  f319 := Tryz.func158.trans (congrArg some (by kernel_rfl))
  f320 := Tryz.func159.trans (congrArg some (by kernel_rfl))
  f321 := Tryz.func173.trans (congrArg some (by kernel_rfl))
  f322 := Tryz.func174.trans (congrArg some (by kernel_rfl))
  f337 := Tryz.func168.trans (congrArg some (by kernel_rfl))
  f338 := Tryz.func169.trans (congrArg some (by kernel_rfl))
  t0 := Tryz.underlying0
  a0 := Tryz.isAgg0
  z0 := Tryz.sizeOf0
  v0 := Tryz.zeroValue0
  t2 := Tryz.underlying2
  a2 := Tryz.isAgg2
  z2 := Tryz.sizeOf2
  v2 := Tryz.zeroValue2
  t3 := Tryz.underlying3
  a3 := Tryz.isAgg3
  z3 := Tryz.sizeOf3
  v3 := Tryz.zeroValue3
  t4 := Tryz.underlying4
  a4 := Tryz.isAgg4
  z4 := Tryz.sizeOf4
  v4 := Tryz.zeroValue4
  t5 := Tryz.underlying5
  a5 := Tryz.isAgg5
  z5 := Tryz.sizeOf5
  v5 := Tryz.zeroValue5
  t9 := Tryz.underlying9
  a9 := Tryz.isAgg9
  z9 := Tryz.sizeOf9
  v9 := Tryz.zeroValue9
  t20 := Tryz.underlying20
  a20 := Tryz.isAgg20
  z20 := Tryz.sizeOf20
  v20 := Tryz.zeroValue20
  t21 := Tryz.underlying21
  a21 := Tryz.isAgg21
  z21 := Tryz.sizeOf21
  v21 := Tryz.zeroValue21
  t37 := Tryz.underlying84
  a37 := Tryz.isAgg84
  z37 := Tryz.sizeOf84
  v37 := Tryz.zeroValue84
  t46 := Tryz.underlying122
  a46 := Tryz.isAgg122
  z46 := Tryz.sizeOf122
  v46 := Tryz.zeroValue122
  t51 := Tryz.underlying174
  a51 := Tryz.isAgg174
  z51 := Tryz.sizeOf174
  v51 := Tryz.zeroValue174
  t53 := Tryz.underlying169
  a53 := Tryz.isAgg169
  z53 := Tryz.sizeOf169
  v53 := Tryz.zeroValue169
  t75 := Tryz.underlying89
  a75 := Tryz.isAgg89
  z75 := Tryz.sizeOf89
  v75 := Tryz.zeroValue89
  t76 := Tryz.underlying90
  a76 := Tryz.isAgg90
  z76 := Tryz.sizeOf90
  v76 := Tryz.zeroValue90
  t85 := Tryz.underlying181
  a85 := Tryz.isAgg181
  z85 := Tryz.sizeOf181
  v85 := Tryz.zeroValue181
  t127 := Tryz.underlying123
  a127 := Tryz.isAgg123
  z127 := Tryz.sizeOf123
  v127 := Tryz.zeroValue123
  t143 := Tryz.underlying213
  a143 := Tryz.isAgg213
  z143 := Tryz.sizeOf213
  v143 := Tryz.zeroValue213
  t145 := Tryz.underlying215
  a145 := Tryz.isAgg215
  z145 := Tryz.sizeOf215
  v145 := Tryz.zeroValue215
  t167 := Tryz.underlying180
  a167 := Tryz.isAgg180
  z167 := Tryz.sizeOf180
  v167 := Tryz.zeroValue180
  t168 := Tryz.underlying183
  a168 := Tryz.isAgg183
  z168 := Tryz.sizeOf183
  v168 := Tryz.zeroValue183
  t171 := Tryz.underlying168
  a171 := Tryz.isAgg168
  z171 := Tryz.sizeOf168
  v171 := Tryz.zeroValue168
  t173 := Tryz.underlying172
  a173 := Tryz.isAgg172
  z173 := Tryz.sizeOf172
  v173 := Tryz.zeroValue172
  t175 := Tryz.underlying200
  a175 := Tryz.isAgg200
  z175 := Tryz.sizeOf200
  v175 := Tryz.zeroValue200
  t210 := Tryz.underlying203
  a210 := Tryz.isAgg203
  z210 := Tryz.sizeOf203
  v210 := Tryz.zeroValue203
  t212 := Tryz.underlying189
  a212 := Tryz.isAgg189
  z212 := Tryz.sizeOf189
  v212 := Tryz.zeroValue189
  t213 := Tryz.underlying190
  a213 := Tryz.isAgg190
  z213 := Tryz.sizeOf190
  t232 := Tryz.underlying216
  a232 := Tryz.isAgg216
  z232 := Tryz.sizeOf216
  v232 := Tryz.zeroValue216
  t233 := Tryz.underlying217
  a233 := Tryz.isAgg217
  z233 := Tryz.sizeOf217
  v233 := Tryz.zeroValue217
  g15 := by kernel_rfl
  g16 := by kernel_rfl
  g17 := by kernel_rfl
  g18 := by kernel_rfl
  g19 := by kernel_rfl
  t80 := Tryz.underlying92
  a80 := Tryz.isAgg92
  z80 := Tryz.sizeOf92
  v80 := Tryz.zeroValue92
  i0 := by kernel_rfl
  i2 := by kernel_rfl
  i3 := by kernel_rfl
  i4 := by kernel_rfl
  i5 := by kernel_rfl
  i9 := by kernel_rfl
  i20 := by kernel_rfl
  i21 := by kernel_rfl
  i37 := by kernel_rfl
  i46 := by kernel_rfl
  i51 := by kernel_rfl
  i53 := by kernel_rfl
  i75 := by kernel_rfl
  i76 := by kernel_rfl
  i80 := by kernel_rfl
  i85 := by kernel_rfl
  i127 := by kernel_rfl
  i143 := by kernel_rfl
  i145 := by kernel_rfl
  i167 := by kernel_rfl
  i168 := by kernel_rfl
  i171 := by kernel_rfl
  i173 := by kernel_rfl
  i175 := by kernel_rfl
  i210 := by kernel_rfl
  i212 := by kernel_rfl
  i232 := by kernel_rfl
  i233 := by kernel_rfl
  m15 := by kernel_rfl
  m16 := by kernel_rfl
  m17 := by kernel_rfl
  m18 := by kernel_rfl
  m19 := by kernel_rfl
  c0 := by kernel_rfl
  c2 := by kernel_rfl
  c3 := by kernel_rfl
  c4 := by kernel_rfl
  c5 := by kernel_rfl
  c9 := by kernel_rfl
  c20 := by kernel_rfl
  c21 := by kernel_rfl
  c37 := by kernel_rfl
  c46 := by kernel_rfl
  c51 := by kernel_rfl
  c53 := by kernel_rfl
  c75 := by kernel_rfl
  c76 := by kernel_rfl
  c80 := by kernel_rfl
  c85 := by kernel_rfl
  c127 := by kernel_rfl
  c143 := by kernel_rfl
  c145 := by kernel_rfl
  c167 := by kernel_rfl
  c168 := by kernel_rfl
  c171 := by kernel_rfl
  c173 := by kernel_rfl
  c175 := by kernel_rfl
  c210 := by kernel_rfl
  c212 := by kernel_rfl
  c213 := by kernel_rfl
  c232 := by kernel_rfl
  c233 := by kernel_rfl }
open Go.RowKit in
theorem Tryz.strconv_Atoi_ok (s : ByteArray) (hmax : s.size ≤ 9223372036854775806) (v : Int) (h : Lib.atoiAll s.data.toList = .ok v) (w : World) :
    Calls Tryz.prog 82 #[.string s] w fun e w' => e = .returned (.tuple #[.int .i64 v, .nilIface]) ∧ (w' = w ∨ ∃ t, w' = Lib.bytesWorld w 5 t) := Any.strconv_Atoi_ok Tryz.laysC172 s hmax v h w
open Go.RowKit in
theorem Tryz.strconv_Atoi_syntax (s : ByteArray) (hlim : s.size ≤ 281474976710656) (h : Lib.atoiAll s.data.toList = Lib.atoiAll []) (ev : Value) (w : World) (hv : w.cell? ⟨5, 0, none⟩ = some ev) (hev : ev = .nilIface ∨ ∃ te pe, ev = .iface te pe) :
    Calls Tryz.prog 82 #[.string s] w fun e w' => ∃ N, e = .returned (.tuple #[.int .i64 (0), .iface 183 (.pointer (some ⟨N, 0, none⟩))]) ∧ w.heap.size ≤ N ∧ w'.heap[N]? = some (.cells #[.string ⟨#[65, 116, 111, 105]⟩, .string s, ev] 203 (0, 0)) ∧ Below w.heap.size w w' := Any.strconv_Atoi_syntax Tryz.laysC172 s hlim h ev w hv hev
open Go.RowKit in
theorem Tryz.strconv_Atoi_range (s : ByteArray) (hlim : s.size ≤ 281474976710656) (h : Lib.atoiAll s.data.toList = .range) (ev : Value) (w : World) (hv : w.cell? ⟨6, 0, none⟩ = some ev) (hev : ev = .nilIface ∨ ∃ te pe, ev = .iface te pe) :
    Calls Tryz.prog 82 #[.string s] w fun e w' => ∃ N, e = .returned (.tuple #[.int .i64 (Lib.atoiSat s.data.toList), .iface 183 (.pointer (some ⟨N, 0, none⟩))]) ∧ w.heap.size ≤ N ∧ w'.heap[N]? = some (.cells #[.string ⟨#[65, 116, 111, 105]⟩, .string s, ev] 203 (0, 0)) ∧ Below w.heap.size w w' := Any.strconv_Atoi_range Tryz.laysC172 s hlim h ev w hv hev
def Tryz.lays145_ren : Go.Shelf.Ren := ⟨fun | 145 => 23 | 220 => 40 | 219 => 76 | 217 => 109 | 225 => 110 | 224 => 111 | 267 => 112 | 266 => 137 | 314 => 138 | n => n, fun | 9 => 9 | 4 => 4 | 59 => 65 | 3 => 3 | 5 => 5 | 46 => 122 | 146 => 175 | 51 => 174 | n => n, fun | 1 => 3 | n => n⟩
theorem Tryz.lays145 : Go.Proofs.Lays.n145 Tryz.prog Tryz.lays145_ren := {
  mixed := by kernel_rfl
  f145 := Tryz.func23.trans (congrArg some (by kernel_rfl))
  f217 := Tryz.func109.trans (congrArg some (by kernel_rfl))
  f219 := Tryz.func76.trans (congrArg some (by kernel_rfl))
  f220 := Tryz.func40.trans (congrArg some (by kernel_rfl))
  f224 := Tryz.func111.trans (congrArg some (by kernel_rfl))
  f225 := Tryz.func110.trans (congrArg some (by kernel_rfl))
  f266 := Tryz.func137.trans (congrArg some (by kernel_rfl))
  f267 := Tryz.func112.trans (congrArg some (by kernel_rfl))
  f314 := Tryz.func138.trans (congrArg some (by kernel_rfl))
  t3 := Tryz.underlying3
  a3 := Tryz.isAgg3
  z3 := Tryz.sizeOf3
  v3 := Tryz.zeroValue3
  t4 := Tryz.underlying4
  a4 := Tryz.isAgg4
  z4 := Tryz.sizeOf4
  v4 := Tryz.zeroValue4
  t5 := Tryz.underlying5
  a5 := Tryz.isAgg5
  z5 := Tryz.sizeOf5
  v5 := Tryz.zeroValue5
  t9 := Tryz.underlying9
  a9 := Tryz.isAgg9
  z9 := Tryz.sizeOf9
  v9 := Tryz.zeroValue9
  t46 := Tryz.underlying122
  a46 := Tryz.isAgg122
  z46 := Tryz.sizeOf122
  v46 := Tryz.zeroValue122
  t51 := Tryz.underlying174
  a51 := Tryz.isAgg174
  z51 := Tryz.sizeOf174
  v51 := Tryz.zeroValue174
  t59 := Tryz.underlying65
  a59 := Tryz.isAgg65
  z59 := Tryz.sizeOf65
  v59 := Tryz.zeroValue65
  t146 := Tryz.underlying175
  a146 := Tryz.isAgg175
  z146 := Tryz.sizeOf175
  v146 := Tryz.zeroValue175
  g1 := by kernel_rfl }
open Go.RowKit Go.Lib in
theorem Tryz.strings_Cut (s sep : ByteArray) (m : Int) (w : World) (hs : s.size < 4294967281) (hm : w.cell? ⟨3, 0, none⟩ = some (.int .i64 m)) :
    Calls Tryz.prog 23 #[.string s, .string sep] w fun e w' => e = .returned (.tuple #[.string ⟨(Lib.cut s.data.toList sep.data.toList).1.toArray⟩, .string ⟨(Lib.cut s.data.toList sep.data.toList).2.1.toArray⟩, .bool (Lib.cut s.data.toList sep.data.toList).2.2]) ∧ ∃ n, w' = w.drewN n := Any.strings_Cut Tryz.lays145 s sep m w hs hm
def Tryz.lays99_ren : Go.Shelf.Ren := ⟨fun | 99 => 24 | 206 => 41 | n => n, fun | 9 => 9 | 4 => 4 | 3 => 3 | n => n, fun | n => n⟩
theorem Tryz.lays99 : Go.Proofs.Lays.n99 Tryz.prog Tryz.lays99_ren := {
  mixed := by kernel_rfl
  f99 := Tryz.func24.trans (congrArg some (by kernel_rfl))
  f206 := Tryz.func41.trans (congrArg some (by kernel_rfl))
  t3 := Tryz.underlying3
  a3 := Tryz.isAgg3
  z3 := Tryz.sizeOf3
  v3 := Tryz.zeroValue3
  t4 := Tryz.underlying4
  a4 := Tryz.isAgg4
  z4 := Tryz.sizeOf4
  v4 := Tryz.zeroValue4
  t9 := Tryz.underlying9
  a9 := Tryz.isAgg9
  z9 := Tryz.sizeOf9
  v9 := Tryz.zeroValue9 }
open Go.RowKit Go.Lib in
theorem Tryz.strings_HasPrefix (s p : ByteArray) (w : World) :
    Calls Tryz.prog 24 #[.string s, .string p] w fun e w' => e = .returned (.bool (Lib.hasPrefix s.data.toList p.data.toList)) ∧ w' = w := Any.strings_HasPrefix Tryz.lays99 s p w
def Tryz.lays101_ren : Go.Shelf.Ren := ⟨fun | 101 => 115 | 208 => 142 | 206 => 41 | n => n, fun | 9 => 9 | 4 => 4 | 3 => 3 | n => n, fun | n => n⟩
theorem Tryz.lays101 : Go.Proofs.Lays.n101 Tryz.prog Tryz.lays101_ren := {
  mixed := by kernel_rfl
  f101 := Tryz.func115.trans (congrArg some (by kernel_rfl))
  f206 := Tryz.func41.trans (congrArg some (by kernel_rfl))
  f208 := Tryz.func142.trans (congrArg some (by kernel_rfl))
  t3 := Tryz.underlying3
  a3 := Tryz.isAgg3
  z3 := Tryz.sizeOf3
  v3 := Tryz.zeroValue3
  t4 := Tryz.underlying4
  a4 := Tryz.isAgg4
  z4 := Tryz.sizeOf4
  v4 := Tryz.zeroValue4
  t9 := Tryz.underlying9
  a9 := Tryz.isAgg9
  z9 := Tryz.sizeOf9
  v9 := Tryz.zeroValue9 }
open Go.RowKit Go.Lib in
theorem Tryz.strings_TrimPrefix (s p : ByteArray) (w : World) :
    Calls Tryz.prog 115 #[.string s, .string p] w fun e w' => e = .returned (.string ⟨(Lib.trimPrefix s.data.toList p.data.toList).toArray⟩) ∧ w' = w := Any.strings_TrimPrefix Tryz.lays101 s p w
def Tryz.lays146_ren : Go.Shelf.Ren := ⟨fun | 146 => 45 | 221 => 81 | 268 => 117 | 138 => 118 | 143 => 119 | 195 => 144 | 197 => 132 | 218 => 145 | 219 => 76 | 260 => 154 | 217 => 109 | 225 => 110 | 224 => 111 | 267 => 112 | 266 => 137 | 314 => 138 | n => n, fun | 9 => 9 | 31 => 54 | 3 => 3 | 4 => 4 | 0 => 0 | 105 => 166 | 21 => 21 | 5 => 5 | 46 => 122 | 119 => 205 | 139 => 208 | 138 => 207 | 146 => 175 | 51 => 174 | n => n, fun | 1 => 3 | 3 => 7 | 4 => 8 | n => n⟩
theorem Tryz.lays146 : Go.Proofs.Lays.n146 Tryz.prog Tryz.lays146_ren := {
  mixed := by kernel_rfl
  f138 := Tryz.func118.trans (congrArg some (by kernel_rfl))
  f143 := Tryz.func119.trans (congrArg some (by kernel_rfl))
  f146 := Tryz.func45.trans (congrArg some (by kernel_rfl))
  f195 := Tryz.func144.trans (congrArg some (by kernel_rfl))
  f197 := Tryz.func132.trans (congrArg some (by kernel_rfl))
  f217 := Tryz.func109.trans (congrArg some (by kernel_rfl))
  f218 := Tryz.func145.trans (congrArg some (by kernel_rfl))
  f219 := Tryz.func76.trans (congrArg some (by kernel_rfl))
  f221 := Tryz.func81.trans (congrArg some (by kernel_rfl))
  f224 := Tryz.func111.trans (congrArg some (by kernel_rfl))
  f225 := Tryz.func110.trans (congrArg some (by kernel_rfl))
  f260 := Tryz.func154.trans (congrArg some (by kernel_rfl))
  f266 := Tryz.func137.trans (congrArg some (by kernel_rfl))
  f267 := Tryz.func112.trans (congrArg some (by kernel_rfl))
  f268 := Tryz.func117.trans (congrArg some (by kernel_rfl))
  f314 := Tryz.func138.trans (congrArg some (by kernel_rfl))
  t0 := Tryz.underlying0
  a0 := Tryz.isAgg0
  z0 := Tryz.sizeOf0
  v0 := Tryz.zeroValue0
  t3 := Tryz.underlying3
  a3 := Tryz.isAgg3
  z3 := Tryz.sizeOf3
  v3 := Tryz.zeroValue3
  t4 := Tryz.underlying4
  a4 := Tryz.isAgg4
  z4 := Tryz.sizeOf4
  v4 := Tryz.zeroValue4
  t5 := Tryz.underlying5
  a5 := Tryz.isAgg5
  z5 := Tryz.sizeOf5
  v5 := Tryz.zeroValue5
  t9 := Tryz.underlying9
  a9 := Tryz.isAgg9
  z9 := Tryz.sizeOf9
  v9 := Tryz.zeroValue9
  t21 := Tryz.underlying21
  a21 := Tryz.isAgg21
  z21 := Tryz.sizeOf21
  v21 := Tryz.zeroValue21
  t31 := Tryz.underlying54
  a31 := Tryz.isAgg54
  z31 := Tryz.sizeOf54
  v31 := Tryz.zeroValue54
  t46 := Tryz.underlying122
  a46 := Tryz.isAgg122
  z46 := Tryz.sizeOf122
  v46 := Tryz.zeroValue122
  t51 := Tryz.underlying174
  a51 := Tryz.isAgg174
  z51 := Tryz.sizeOf174
  v51 := Tryz.zeroValue174
  t105 := Tryz.underlying166
  a105 := Tryz.isAgg166
  z105 := Tryz.sizeOf166
  v105 := Tryz.zeroValue166
  t119 := Tryz.underlying205
  a119 := Tryz.isAgg205
  z119 := Tryz.sizeOf205
  t138 := Tryz.underlying207
  a138 := Tryz.isAgg207
  z138 := Tryz.sizeOf207
  v138 := Tryz.zeroValue207
  t139 := Tryz.underlying208
  a139 := Tryz.isAgg208
  z139 := Tryz.sizeOf208
  v139 := Tryz.zeroValue208
  t146 := Tryz.underlying175
  a146 := Tryz.isAgg175
  z146 := Tryz.sizeOf175
  v146 := Tryz.zeroValue175
  g1 := by kernel_rfl
  g3 := by kernel_rfl
  g4 := by kernel_rfl }
open Go.RowKit Go.Lib in
theorem Tryz.strings_Split (s sep : ByteArray) (m : Int) (w : World) (hs : s.size < 4294967281) (hm : w.cell? ⟨3, 0, none⟩ = some (.int .i64 m)) (h1 : 1 ≤ sep.size) :
    Calls Tryz.prog 45 #[.string s, .string sep] w fun e w' =>
      e = .returned (.slice (some ⟨w.heap.size, 0, none⟩) (Lib.countB s sep + 1) (Lib.countB s sep + 1)) ∧ w' = w.alloc (.cells ((Lib.splitB sep 0 (Lib.countB s sep) s).map Value.string).toArray 9) := Any.strings_Split Tryz.lays146 (by kernel_rfl) s sep m w hs hm h1
def Tryz.lays155_ren : Go.Shelf.Ren := ⟨fun | 155 => 69 | 154 => 104 | 138 => 118 | 165 => 35 | 143 => 119 | 166 => 36 | 197 => 132 | 169 => 37 | 195 => 144 | 218 => 145 | 240 => 71 | 241 => 72 | 219 => 76 | 260 => 154 | 276 => 106 | 277 => 107 | 217 => 109 | 225 => 110 | 224 => 111 | 267 => 112 | 266 => 137 | 314 => 138 | n => n, fun | 9 => 9 | 3 => 3 | 4 => 4 | 72 => 86 | 0 => 0 | 76 => 90 | 105 => 166 | 21 => 21 | 5 => 5 | 70 => 83 | 20 => 20 | 37 => 84 | 75 => 89 | 127 => 123 | 164 => 149 | 46 => 122 | 119 => 205 | 139 => 208 | 138 => 207 | 146 => 175 | 51 => 174 | 80 => 92 | n => n, fun | 1 => 3 | 3 => 7 | 4 => 8 | n => n⟩
theorem Tryz.lays155 : Go.Proofs.Lays.n155 Tryz.prog Tryz.lays155_ren := {
  mixed := by kernel_rfl
  f138 := Tryz.func118.trans (congrArg some (by kernel_rfl))
  f143 := Tryz.func119.trans (congrArg some (by kernel_rfl))
  f154 := Tryz.func104.trans (congrArg some (by kernel_rfl))
  f155 := Tryz.func69.trans (congrArg some (by kernel_rfl))
  f165 := Tryz.func35.trans (congrArg some (by kernel_rfl))
  f166 := Tryz.func36.trans (congrArg some (by kernel_rfl))
  f169 := Tryz.func37.trans (congrArg some (by kernel_rfl))
  f195 := Tryz.func144.trans (congrArg some (by kernel_rfl))
  f197 := Tryz.func132.trans (congrArg some (by kernel_rfl))
  f217 := Tryz.func109.trans (congrArg some (by kernel_rfl))
  f218 := Tryz.func145.trans (congrArg some (by kernel_rfl))
  f219 := Tryz.func76.trans (congrArg some (by kernel_rfl))
  f224 := Tryz.func111.trans (congrArg some (by kernel_rfl))
  f225 := Tryz.func110.trans (congrArg some (by kernel_rfl))
  f240 := Tryz.func71.trans (congrArg some (by kernel_rfl))
  f241 := Tryz.func72.trans (congrArg some (by kernel_rfl))
  f260 := Tryz.func154.trans (congrArg some (by kernel_rfl))
  f266 := Tryz.func137.trans (congrArg some (by kernel_rfl))
  f267 := Tryz.func112.trans (congrArg some (by kernel_rfl))
  f276 := Tryz.func106.trans (congrArg some (by kernel_rfl))
  f277 := Tryz.func107.trans (congrArg some (by kernel_rfl))
  f314 := Tryz.func138.trans (congrArg some (by kernel_rfl))
  t0 := Tryz.underlying0
  a0 := Tryz.isAgg0
  z0 := Tryz.sizeOf0
  v0 := Tryz.zeroValue0
  t3 := Tryz.underlying3
  a3 := Tryz.isAgg3
  z3 := Tryz.sizeOf3
  v3 := Tryz.zeroValue3
  t4 := Tryz.underlying4
  a4 := Tryz.isAgg4
  z4 := Tryz.sizeOf4
  v4 := Tryz.zeroValue4
  t5 := Tryz.underlying5
  a5 := Tryz.isAgg5
  z5 := Tryz.sizeOf5
  v5 := Tryz.zeroValue5
  t9 := Tryz.underlying9
  a9 := Tryz.isAgg9
  z9 := Tryz.sizeOf9
  v9 := Tryz.zeroValue9
  t20 := Tryz.underlying20
  a20 := Tryz.isAgg20
  z20 := Tryz.sizeOf20
  v20 := Tryz.zeroValue20
  t21 := Tryz.underlying21
  a21 := Tryz.isAgg21
  z21 := Tryz.sizeOf21
  v21 := Tryz.zeroValue21
  t37 := Tryz.underlying84
  a37 := Tryz.isAgg84
  z37 := Tryz.sizeOf84
  v37 := Tryz.zeroValue84
  t46 := Tryz.underlying122
  a46 := Tryz.isAgg122
  z46 := Tryz.sizeOf122
  v46 := Tryz.zeroValue122
  t51 := Tryz.underlying174
  a51 := Tryz.isAgg174
  z51 := Tryz.sizeOf174
  v51 := Tryz.zeroValue174
  t70 := Tryz.underlying83
  a70 := Tryz.isAgg83
  z70 := Tryz.sizeOf83
  v70 := Tryz.zeroValue83
  t72 := Tryz.underlying86
  a72 := Tryz.isAgg86
  z72 := Tryz.sizeOf86
  v72 := Tryz.zeroValue86
  t75 := Tryz.underlying89
  a75 := Tryz.isAgg89
  z75 := Tryz.sizeOf89
  v75 := Tryz.zeroValue89
  t76 := Tryz.underlying90
  a76 := Tryz.isAgg90
  z76 := Tryz.sizeOf90
  v76 := Tryz.zeroValue90
  t105 := Tryz.underlying166
  a105 := Tryz.isAgg166
  z105 := Tryz.sizeOf166
  v105 := Tryz.zeroValue166
  t119 := Tryz.underlying205
  a119 := Tryz.isAgg205
  z119 := Tryz.sizeOf205
  t127 := Tryz.underlying123
  a127 := Tryz.isAgg123
  z127 := Tryz.sizeOf123
  v127 := Tryz.zeroValue123
  t138 := Tryz.underlying207
  a138 := Tryz.isAgg207
  z138 := Tryz.sizeOf207
  v138 := Tryz.zeroValue207
  t139 := Tryz.underlying208
  a139 := Tryz.isAgg208
  z139 := Tryz.sizeOf208
  v139 := Tryz.zeroValue208
  t146 := Tryz.underlying175
  a146 := Tryz.isAgg175
  z146 := Tryz.sizeOf175
  v146 := Tryz.zeroValue175
  t164 := Tryz.underlying149
  a164 := Tryz.isAgg149
  z164 := Tryz.sizeOf149
  v164 := Tryz.zeroValue149
  g1 := by kernel_rfl
  g3 := by kernel_rfl
  g4 := by kernel_rfl }
theorem Tryz.Builder_Extra_155 : Builder.Extra Tryz.prog Tryz.lays155_ren := {
  sizeBuilder := by kernel_rfl
  liesBuilder := by kernel_rfl
  t5 := Tryz.underlying5
  a5 := Tryz.isAgg5
  z5 := Tryz.sizeOf5
  v5 := Tryz.zeroValue5
  infoByte := by kernel_rfl
  cellsByte := by kernel_rfl
  sizeByte := by kernel_rfl
  neB5 := by decide }
open Go.RowKit Go.Lib in
theorem Tryz.strings_ReplaceAll (s old new : ByteArray) (m : Int) (w : World) (hs : s.size < 4294967281) (hm : w.cell? ⟨3, 0, none⟩ = some (.int .i64 m)) (h1 : 1 ≤ old.size) (hlen : s.size + Lib.countB s old * new.size ≤ 140737488355328) :
    Calls Tryz.prog 69 #[.string s, .string old, .string new] w fun e w' =>
      e = .returned (.string ⟨(Lib.replaceAll s.data.toList old.data.toList new.data.toList).toArray⟩) ∧ Below w.heap.size w w' := Any.strings_ReplaceAll Tryz.lays155 Tryz.Builder_Extra_155 s old new m w hs hm h1 hlen
def Tryz.lays212_ren : Go.Shelf.Ren := ⟨fun | 212 => 127 | 263 => 151 | 264 => 152 | n => n, fun | 46 => 122 | 51 => 174 | 146 => 175 | 53 => 169 | 148 => 187 | n => n, fun | n => n⟩
theorem Tryz.lays212 : Go.Proofs.Lays.n212 Tryz.prog Tryz.lays212_ren := {
  mixed := by kernel_rfl
  f212 := Tryz.func127.trans (congrArg some (by kernel_rfl))
  f263 := Tryz.func151.trans (congrArg some (by kernel_rfl))
  f264 := Tryz.func152.trans (congrArg some (by kernel_rfl))
  t46 := Tryz.underlying122
  a46 := Tryz.isAgg122
  z46 := Tryz.sizeOf122
  v46 := Tryz.zeroValue122
  t51 := Tryz.underlying174
  a51 := Tryz.isAgg174
  z51 := Tryz.sizeOf174
  v51 := Tryz.zeroValue174
  t53 := Tryz.underlying169
  a53 := Tryz.isAgg169
  z53 := Tryz.sizeOf169
  v53 := Tryz.zeroValue169
  t146 := Tryz.underlying175
  a146 := Tryz.isAgg175
  z146 := Tryz.sizeOf175
  v146 := Tryz.zeroValue175
  t148 := Tryz.underlying187
  a148 := Tryz.isAgg187
  z148 := Tryz.sizeOf187
  v148 := Tryz.zeroValue187 }
open Go.RowKit Go.Lib in
theorem Tryz.bits_Mul (x y : Nat) (hx : x < 18446744073709551616) (hy : y < 18446744073709551616) (w : World) :
    Calls Tryz.prog 127 #[.int .u64 x, .int .u64 y] w fun e w' => e = .returned (.tuple #[.int .u64 ((x * y / 18446744073709551616 : Nat) : Int), .int .u64 ((x * y % 18446744073709551616 : Nat) : Int)]) ∧ w' = w := Any.bits_Mul Tryz.lays212 x y hx hy w
def Tryz.lays105_ren : Go.Shelf.Ren := ⟨fun | 105 => 101 | 212 => 127 | 99 => 24 | 165 => 35 | 166 => 36 | 170 => 130 | 169 => 37 | 263 => 151 | 264 => 152 | 206 => 41 | 240 => 71 | 241 => 72 | 276 => 106 | 277 => 107 | n => n, fun | 9 => 9 | 3 => 3 | 4 => 4 | 20 => 20 | 0 => 0 | 46 => 122 | 109 => 160 | 5 => 5 | 72 => 86 | 76 => 90 | 51 => 174 | 146 => 175 | 53 => 169 | 148 => 187 | 70 => 83 | 37 => 84 | 75 => 89 | 127 => 123 | 164 => 149 | 80 => 92 | n => n, fun | n => n⟩
theorem Tryz.lays105 : Go.Proofs.Lays.n105 Tryz.prog Tryz.lays105_ren := {
  mixed := by kernel_rfl
  f99 := Tryz.func24.trans (congrArg some (by kernel_rfl))
  f105 := Tryz.func101.trans (congrArg some (by kernel_rfl))
  f165 := Tryz.func35.trans (congrArg some (by kernel_rfl))
  f166 := Tryz.func36.trans (congrArg some (by kernel_rfl))
  f169 := Tryz.func37.trans (congrArg some (by kernel_rfl))
  f170 := Tryz.func130.trans (congrArg some (by kernel_rfl))
  f206 := Tryz.func41.trans (congrArg some (by kernel_rfl))
  f212 := Tryz.func127.trans (congrArg some (by kernel_rfl))
  f240 := Tryz.func71.trans (congrArg some (by kernel_rfl))
  f241 := Tryz.func72.trans (congrArg some (by kernel_rfl))
  f263 := Tryz.func151.trans (congrArg some (by kernel_rfl))
  f264 := Tryz.func152.trans (congrArg some (by kernel_rfl))
  f276 := Tryz.func106.trans (congrArg some (by kernel_rfl))
  f277 := Tryz.func107.trans (congrArg some (by kernel_rfl))
  t0 := Tryz.underlying0
  a0 := Tryz.isAgg0
  z0 := Tryz.sizeOf0
  v0 := Tryz.zeroValue0
  t3 := Tryz.underlying3
  a3 := Tryz.isAgg3
  z3 := Tryz.sizeOf3
  v3 := Tryz.zeroValue3
  t4 := Tryz.underlying4
  a4 := Tryz.isAgg4
  z4 := Tryz.sizeOf4
  v4 := Tryz.zeroValue4
  t5 := Tryz.underlying5
  a5 := Tryz.isAgg5
  z5 := Tryz.sizeOf5
  v5 := Tryz.zeroValue5
  t9 := Tryz.underlying9
  a9 := Tryz.isAgg9
  z9 := Tryz.sizeOf9
  v9 := Tryz.zeroValue9
  t20 := Tryz.underlying20
  a20 := Tryz.isAgg20
  z20 := Tryz.sizeOf20
  v20 := Tryz.zeroValue20
  t37 := Tryz.underlying84
  a37 := Tryz.isAgg84
  z37 := Tryz.sizeOf84
  v37 := Tryz.zeroValue84
  t46 := Tryz.underlying122
  a46 := Tryz.isAgg122
  z46 := Tryz.sizeOf122
  v46 := Tryz.zeroValue122
  t51 := Tryz.underlying174
  a51 := Tryz.isAgg174
  z51 := Tryz.sizeOf174
  v51 := Tryz.zeroValue174
  t53 := Tryz.underlying169
  a53 := Tryz.isAgg169
  z53 := Tryz.sizeOf169
  v53 := Tryz.zeroValue169
  t70 := Tryz.underlying83
  a70 := Tryz.isAgg83
  z70 := Tryz.sizeOf83
  v70 := Tryz.zeroValue83
  t72 := Tryz.underlying86
  a72 := Tryz.isAgg86
  z72 := Tryz.sizeOf86
  v72 := Tryz.zeroValue86
  t75 := Tryz.underlying89
  a75 := Tryz.isAgg89
  z75 := Tryz.sizeOf89
  v75 := Tryz.zeroValue89
  t76 := Tryz.underlying90
  a76 := Tryz.isAgg90
  z76 := Tryz.sizeOf90
  v76 := Tryz.zeroValue90
  t109 := Tryz.underlying160
  a109 := Tryz.isAgg160
  z109 := Tryz.sizeOf160
  v109 := Tryz.zeroValue160
  t127 := Tryz.underlying123
  a127 := Tryz.isAgg123
  z127 := Tryz.sizeOf123
  v127 := Tryz.zeroValue123
  t146 := Tryz.underlying175
  a146 := Tryz.isAgg175
  z146 := Tryz.sizeOf175
  v146 := Tryz.zeroValue175
  t148 := Tryz.underlying187
  a148 := Tryz.isAgg187
  z148 := Tryz.sizeOf187
  v148 := Tryz.zeroValue187
  t164 := Tryz.underlying149
  a164 := Tryz.isAgg149
  z164 := Tryz.sizeOf149
  v164 := Tryz.zeroValue149 }
theorem Tryz.Builder_Extra_105 : Builder.Extra Tryz.prog Tryz.lays105_ren := {
  sizeBuilder := by kernel_rfl
  liesBuilder := by kernel_rfl
  t5 := Tryz.underlying5
  a5 := Tryz.isAgg5
  z5 := Tryz.sizeOf5
  v5 := Tryz.zeroValue5
  infoByte := by kernel_rfl
  cellsByte := by kernel_rfl
  sizeByte := by kernel_rfl
  neB5 := by decide }
open Go.RowKit Go.Lib in
theorem Tryz.strings_Repeat (s : ByteArray) (c : Nat) (w : World) (hc : c ≤ 9223372036854775807) (hlen : s.size * c ≤ 140737488355328) :
    Calls Tryz.prog 101 #[.string s, .int .i64 c] w fun e w' => e = .returned (.string ⟨(Lib.repeatL s.data.toList c).toArray⟩) ∧ Below w.heap.size w w' := Any.strings_Repeat Tryz.lays105 Tryz.Builder_Extra_105 s c w hc hlen
end Go.Proofs
end
section
set_option linter.unusedVariables false
set_option linter.unusedSimpArgs false
set_option maxRecDepth 100000
namespace Go.Proofs.YtgcnbicoajjlaaaGreatDoor
open Go Go.Eng Go.Tx Go.RowKit
variable {m : Int}
noncomputable def okLib (fn : Func) : Bool := fn.body.isSome && !(fn.name == "runtime.NumGoroutine")
theorem ev_refl {w : World} : Ev (fun _ => False) w w := Ev.refl _ _
theorem ev_below {w w' : World} (h : Below w.heap.size w w') : Ev (fun _ => False) w w' := ⟨h.os, h.tape, h.output, h.size, fun k hk _ => h.block k hk⟩
theorem ev_drewN {w : World} (n : Nat) : Ev (fun _ => False) w (w.drewN n) := ⟨rfl, rfl, rfl, Nat.le_refl _, fun _ _ _ => rfl⟩
theorem ev_grow {w : World} (n : Nat) (os : Array Obj) : Ev (fun _ => False) w (Sort.grow (w.drewN n) os) := ⟨rfl, rfl, rfl, by simp [Sort.grow, World.drewN], fun k hk _ => by
  show (w.heap ++ os)[k]? = _
  rw [Array.getElem?_append_left hk]⟩
theorem enters_lib {P : Program} {f : Nat} {fn : Func} (hf : P.funcs[f]? = some fn) (hk : okLib fn = true) (args : Array Value) (w : World) : (callFunc f args).run P w = .ok (.enter f args) w := by
  simp only [okLib, Bool.and_eq_true, Bool.not_eq_true'] at hk
  obtain ⟨hb, hn⟩ := hk
  have hn' : ¬ fn.name = "runtime.NumGoroutine" := fun e => by simp [e] at hn
  obtain ⟨c, hc⟩ := Option.isSome_iff_exists.1 hb
  simp [callFunc, hf, hn', hc]
theorem lib_ok {f : Nat} {fn : Func} (hf : Tryz.prog.funcs[f]? = some fn) (hk : okLib fn = true) {C : Con}
    (h : ∀ xs r, (C xs).run = some r → ∀ (w : World) (st : Stab) (vals : List Value), Sta w st → GlobOk (GG m) w st → All2 (R2 w st noρ) xs vals →
      Calls Tryz.prog f vals.toArray w fun e w' => ∃ v, e = .returned v ∧ Gone w st r v w') : Ok m f C := by
  intro xs r hr hp w st vals hsta hg hargs
  refine .inl ⟨enters_lib hf hk _ _, (h xs r hr w st vals hsta hg hargs).mono fun e w' hq => hq⟩
theorem gone_val {w w' : World} {st : Stab} {r : AV} {v : Value} (he : Ev (fun _ => False) w w') (hsta : Sta w st) (hnf : ∀ e sz els, r ≠ .fresh e sz els) (h : R3 w' st noρ r v) : Gone w st r v w' :=
  ⟨st, he, fun _ _ h => h, fun _ _ _ h => h, hsta.keep he.size, by
    cases r
    case fresh => exact (hnf _ _ _ rfl).elim
    all_goals exact fun _ => h⟩
theorem a_str {w : World} {st : Stab} {ρ : Nat → Eng.Loc} {s : Str} {v : Value} (h : R2 w st ρ (.str s) v) : v = .string ⟨s.toArray⟩ := by cases (show PV w st _ v from h); rfl
theorem a_int {w : World} {st : Stab} {ρ : Nat → Eng.Loc} {k : IntKind} {n : Int} {v : Value} (h : R2 w st ρ (.int k n) v) : v = .int k n := by cases (show PV w st _ v from h); rfl
theorem a1 {w : World} {st : Stab} {ρ : Nat → Eng.Loc} {a : AV} {vals : List Value} (h : All2 (R2 w st ρ) [a] vals) : ∃ x, vals = [x] ∧ R2 w st ρ a x := by
  cases h with | cons h t => cases t; exact ⟨_, rfl, h⟩
theorem a2 {w : World} {st : Stab} {ρ : Nat → Eng.Loc} {a b : AV} {vals : List Value} (h : All2 (R2 w st ρ) [a, b] vals) : ∃ x y, vals = [x, y] ∧ R2 w st ρ a x ∧ R2 w st ρ b y := by
  cases h with | cons h t => obtain ⟨y, rfl, hy⟩ := a1 t; exact ⟨_, _, rfl, h, hy⟩
theorem a3 {w : World} {st : Stab} {ρ : Nat → Eng.Loc} {a b c : AV} {vals : List Value} (h : All2 (R2 w st ρ) [a, b, c] vals) : ∃ x y z, vals = [x, y, z] ∧ R2 w st ρ a x ∧ R2 w st ρ b y ∧ R2 w st ρ c z := by
  cases h with | cons h t => obtain ⟨y, z, rfl, hy, hz⟩ := a2 t; exact ⟨_, _, _, rfl, h, hy, hz⟩
theorem pv_int {w : World} {st : Stab} {k : IntKind} {n : Int} {v : Value} (h : PV w st (.int k n) v) : v = .int k n := by cases h; rfl
theorem glob3 {w : World} {st : Stab} (hg : GlobOk (GG m) w st) : w.cell? ⟨3, 0, none⟩ = some (.int .i64 m) := by
  rcases hg 3 with h | h
  · cases h
  · cases (show PV w st (.rd [.int .i64 m]) _ from h) with
    | rd _ b o vals hc hs hp =>
      have h1 := hc 0 (by simp)
      have h2 := hp 0 (by simp)
      rw [Nat.zero_add] at h1
      rw [h1, pv_int h2]
theorem r_str {w : World} {st : Stab} {ρ : Nat → Eng.Loc} (s : Str) : R3 w st ρ (.str s) (.string ⟨s.toArray⟩) := PV.str s
noncomputable def Ccut : Con
  | [.str s, .str p] => .need (s.length < 4294967281) (.ret (.tup [.str (Lib.cut s p).1, .str (Lib.cut s p).2.1, .prop (Lib.cut s p).2.2]))
  | _ => .fail
theorem ok23 : Ok m 23 Ccut := lib_ok Tryz.func23 (by kernel_rfl) fun xs r hr w st vals hsta hg ha => by
  unfold Ccut at hr
  split at hr
  · rename_i s p
    obtain ⟨hs, hr⟩ := Tr.run_need hr
    obtain rfl := Tr.run_ret hr
    obtain ⟨x, y, rfl, hx, hy⟩ := a2 ha
    obtain rfl := a_str hx
    obtain rfl := a_str hy
    refine (Tryz.strings_Cut ⟨s.toArray⟩ ⟨p.toArray⟩ m w (by simpa [ByteArray.size] using hs) (glob3 hg)).mono fun e w' hq => ?_
    obtain ⟨rfl, n, rfl⟩ := hq
    exact ⟨_, rfl, gone_val (ev_drewN n) hsta (by simp) ⟨_, rfl, .cons (PV.str _) (.cons (PV.str _) (.cons (PV.prop _) .nil))⟩⟩
  · exact (Tr.run_fail hr).elim
noncomputable def ChasPrefix : Con
  | [.str s, .str p] => .ret (.prop (Lib.hasPrefix s p))
  | _ => .fail
theorem ok24 : Ok m 24 ChasPrefix := lib_ok Tryz.func24 (by kernel_rfl) fun xs r hr w st vals hsta hg ha => by
  unfold ChasPrefix at hr
  split at hr
  · rename_i s p
    obtain rfl := Tr.run_ret hr
    obtain ⟨x, y, rfl, hx, hy⟩ := a2 ha
    obtain rfl := a_str hx
    obtain rfl := a_str hy
    refine (Tryz.strings_HasPrefix ⟨s.toArray⟩ ⟨p.toArray⟩ w).mono fun e w' hq => ?_
    obtain ⟨rfl, rfl⟩ := hq
    exact ⟨_, rfl, gone_val ev_refl hsta (by simp) (PV.prop _)⟩
  · exact (Tr.run_fail hr).elim
noncomputable def CcutPrefix : Con
  | [.str s, .str p] => .ret (.tup [.str (Lib.trimPrefix s p), .prop (Lib.hasPrefix s p)])
  | _ => .fail
theorem ok42 : Ok m 42 CcutPrefix := lib_ok Tryz.func42 (by kernel_rfl) fun xs r hr w st vals hsta hg ha => by
  unfold CcutPrefix at hr
  split at hr
  · rename_i s p
    obtain rfl := Tr.run_ret hr
    obtain ⟨x, y, rfl, hx, hy⟩ := a2 ha
    obtain rfl := a_str hx
    obtain rfl := a_str hy
    refine (Tryz.strings_CutPrefix ⟨s.toArray⟩ ⟨p.toArray⟩ w).mono fun e w' hq => ?_
    obtain ⟨rfl, rfl⟩ := hq
    exact ⟨_, rfl, gone_val ev_refl hsta (by simp) ⟨_, rfl, .cons (PV.str _) (.cons (PV.prop _) .nil)⟩⟩
  · exact (Tr.run_fail hr).elim
noncomputable def CcutSuffix : Con
  | [.str s, .str p] => .need (s.length ≤ 9223372036854775807) (.ret (.tup [.str (Lib.trimSuffix s p), .prop (Lib.hasSuffix s p)]))
  | _ => .fail
theorem ok79 : Ok m 79 CcutSuffix := lib_ok Tryz.func79 (by kernel_rfl) fun xs r hr w st vals hsta hg ha => by
  unfold CcutSuffix at hr
  split at hr
  · rename_i s p
    obtain ⟨hs, hr⟩ := Tr.run_need hr
    obtain rfl := Tr.run_ret hr
    obtain ⟨x, y, rfl, hx, hy⟩ := a2 ha
    obtain rfl := a_str hx
    obtain rfl := a_str hy
    refine (Tryz.strings_CutSuffix ⟨s.toArray⟩ ⟨p.toArray⟩ w (by simpa [ByteArray.size] using hs)).mono fun e w' hq => ?_
    obtain ⟨rfl, rfl⟩ := hq
    exact ⟨_, rfl, gone_val ev_refl hsta (by simp) ⟨_, rfl, .cons (PV.str _) (.cons (PV.prop _) .nil)⟩⟩
  · exact (Tr.run_fail hr).elim
noncomputable def CtrimPrefix : Con
  | [.str s, .str p] => .ret (.str (Lib.trimPrefix s p))
  | _ => .fail
theorem ok115 : Ok m 115 CtrimPrefix := lib_ok Tryz.func115 (by kernel_rfl) fun xs r hr w st vals hsta hg ha => by
  unfold CtrimPrefix at hr
  split at hr
  · rename_i s p
    obtain rfl := Tr.run_ret hr
    obtain ⟨x, y, rfl, hx, hy⟩ := a2 ha
    obtain rfl := a_str hx
    obtain rfl := a_str hy
    refine (Tryz.strings_TrimPrefix ⟨s.toArray⟩ ⟨p.toArray⟩ w).mono fun e w' hq => ?_
    obtain ⟨rfl, rfl⟩ := hq
    exact ⟨_, rfl, gone_val ev_refl hsta (by simp) (PV.str _)⟩
  · exact (Tr.run_fail hr).elim
noncomputable def CtrimLeft : Con
  | [.str s, .str [c]] => .need (c.toNat < 128) (.ret (.str (Lib.trimLeftB s c)))
  | _ => .fail
theorem ok141 : Ok m 141 CtrimLeft := lib_ok Tryz.func141 (by kernel_rfl) fun xs r hr w st vals hsta hg ha => by
  unfold CtrimLeft at hr
  split at hr
  · rename_i s c
    obtain ⟨hs, hr⟩ := Tr.run_need hr
    obtain rfl := Tr.run_ret hr
    obtain ⟨x, y, rfl, hx, hy⟩ := a2 ha
    obtain rfl := a_str hx
    obtain rfl := a_str hy
    refine (Tryz.strings_TrimLeft_one ⟨s.toArray⟩ c hs w).mono fun e w' hq => ?_
    obtain ⟨rfl, rfl⟩ := hq
    exact ⟨_, rfl, gone_val ev_refl hsta (by simp) (PV.str _)⟩
  · exact (Tr.run_fail hr).elim
noncomputable def CindexByte : Con
  | [.str s, .int .u8 c] => .ret (.int .i64 (Lib.indexByte s c.toNat.toUInt8))
  | _ => .fail
theorem ok143 : Ok m 143 CindexByte := lib_ok Tryz.func143 (by kernel_rfl) fun xs r hr w st vals hsta hg ha => by
  unfold CindexByte at hr
  split at hr
  · rename_i s c
    obtain rfl := Tr.run_ret hr
    obtain ⟨x, y, rfl, hx, hy⟩ := a2 ha
    obtain rfl := a_str hx
    obtain rfl := a_int hy
    refine (Tryz.strings_IndexByte ⟨s.toArray⟩ c w).mono fun e w' hq => ?_
    obtain ⟨rfl, rfl⟩ := hq
    exact ⟨_, rfl, gone_val ev_refl hsta (by simp) (PV.int _ _)⟩
  · exact (Tr.run_fail hr).elim
noncomputable def CreplaceAll : Con
  | [.str s, .str o, .str n] => .need (s.length < 4294967281 ∧ 1 ≤ o.length ∧ s.length + Lib.countB ⟨s.toArray⟩ ⟨o.toArray⟩ * n.length ≤ 140737488355328) (.ret (.str (Lib.replaceAll s o n)))
  | _ => .fail
theorem ok69 : Ok m 69 CreplaceAll := lib_ok Tryz.func69 (by kernel_rfl) fun xs r hr w st vals hsta hg ha => by
  unfold CreplaceAll at hr
  split at hr
  · rename_i s o n
    obtain ⟨⟨h1, h2, h3⟩, hr⟩ := Tr.run_need hr
    obtain rfl := Tr.run_ret hr
    obtain ⟨x, y, z, rfl, hx, hy, hz⟩ := a3 ha
    obtain rfl := a_str hx
    obtain rfl := a_str hy
    obtain rfl := a_str hz
    refine (Tryz.strings_ReplaceAll ⟨s.toArray⟩ ⟨o.toArray⟩ ⟨n.toArray⟩ m w (by simpa [ByteArray.size] using h1) (glob3 hg) (by simpa [ByteArray.size] using h2) (by simpa [ByteArray.size] using h3)).mono fun e w' hq => ?_
    obtain ⟨rfl, hw⟩ := hq
    exact ⟨_, rfl, gone_val (ev_below hw) hsta (by simp) (PV.str _)⟩
  · exact (Tr.run_fail hr).elim
noncomputable def Crepeat : Con
  | [.str s, .int .i64 n] => .need (0 ≤ n ∧ n ≤ 9223372036854775807 ∧ s.length * n.toNat ≤ 140737488355328) (.ret (.str (Lib.repeatL s n.toNat)))
  | _ => .fail
theorem ok101 : Ok m 101 Crepeat := lib_ok Tryz.func101 (by kernel_rfl) fun xs r hr w st vals hsta hg ha => by
  unfold Crepeat at hr
  split at hr
  · rename_i s n
    obtain ⟨⟨h1, h2, h3⟩, hr⟩ := Tr.run_need hr
    obtain rfl := Tr.run_ret hr
    obtain ⟨x, y, rfl, hx, hy⟩ := a2 ha
    obtain rfl := a_str hx
    obtain rfl := a_int hy
    obtain ⟨k, rfl⟩ : ∃ k : Nat, n = k := ⟨n.toNat, by omega⟩
    rw [Int.toNat_natCast] at h3 ⊢
    refine (Tryz.strings_Repeat ⟨s.toArray⟩ k w (by omega) (by simpa [ByteArray.size] using h3)).mono fun e w' hq => ?_
    obtain ⟨rfl, hw⟩ := hq
    exact ⟨_, rfl, gone_val (ev_below hw) hsta (by simp) (PV.str _)⟩
  · exact (Tr.run_fail hr).elim
noncomputable def Citoa : Con
  | [.int .i64 n] => .need (-9223372036854775808 ≤ n ∧ n ≤ 9223372036854775807) (.ret (.str (Lib.itoa n)))
  | _ => .fail
theorem pow10s_tab : pow10s = Lib.pow10Tab := by decide
theorem cells_of {w : World} {b o : Nat} {v : Value} (h : w.cell? ⟨b, o, none⟩ = some v) : ∃ cs t z, w.heap[b]? = some (.cells cs t z) := by
  simp only [World.cell?] at h
  cases hb : w.heap[b]? with
  | none => simp [hb] at h
  | some x => cases x <;> first | exact ⟨_, _, _, rfl⟩ | (simp [hb] at h)
theorem glob4 {w : World} {st : Stab} (hg : GlobOk (GG m) w st) : Lib.TabIs Tryz.prog w "internal/strconv.uint64pow10" .u64 Lib.pow10Tab := by
  rcases hg 4 with h | h
  · cases h
  · cases (show PV w st (.rda 1 20 (fun i => [.int .u64 (pow10s.getD i 0)])) _ from h) with
    | rda _ _ _ b o vals h1 hc hs hp he _ =>
      have hg4 : Tryz.prog.globalNamed "internal/strconv.uint64pow10" = some 4 := by kernel_rfl
      have hv : ∀ i, i < 20 → w.cell? ⟨4, i, none⟩ = some (.int .u64 (pow10s.getD i 0)) := fun i hi => by
        have h1 := hc i 0 hi (by omega)
        have h2 := hp i 0 hi (by omega)
        rw [Nat.zero_add, Nat.mul_one, Nat.add_zero] at h1
        rw [h1, pv_int h2]
      obtain ⟨cs, t, z, hb⟩ := cells_of (hv 0 (by omega))
      have hcell : ∀ i, w.cell? ⟨4, i, none⟩ = cs[i]? := fun i => by simp [World.cell?, hb]
      unfold Lib.TabIs World.var?
      rw [hg4]
      simp only [Option.bind_some, hb, Option.some.injEq]
      have hl : pow10s.length = 20 := by decide
      rw [← pow10s_tab]
      apply Array.ext_getElem?
      intro i
      rw [← hcell]
      rcases Nat.lt_or_ge i 20 with hi | hi
      · rw [hv i hi]
        simp [List.getElem?_map, List.getD_eq_getElem?_getD, List.getElem?_eq_getElem (show i < pow10s.length by omega)]
      · have h20 : w.cell? ⟨4, 20, none⟩ = none := by simpa using he
        rw [hcell, Array.getElem?_eq_none_iff] at h20
        rw [hcell]
        rw [Array.getElem?_eq_none (by omega), Array.getElem?_eq_none (by simp; omega)]
theorem ok34 : Ok m 34 Citoa := lib_ok Tryz.func34 (by kernel_rfl) fun xs r hr w st vals hsta hg ha => by
  unfold Citoa at hr
  split at hr
  · rename_i n
    obtain ⟨⟨h1, h2⟩, hr⟩ := Tr.run_need hr
    obtain rfl := Tr.run_ret hr
    obtain ⟨x, rfl, hx⟩ := a1 ha
    obtain rfl := a_int hx
    refine (Tryz.strconv_Itoa n h1 h2 w (glob4 hg)).mono fun e w' hq => ?_
    obtain ⟨rfl, k, os, rfl⟩ := hq
    exact ⟨_, rfl, gone_val (ev_grow k os) hsta (by simp) (PV.str _)⟩
  · exact (Tr.run_fail hr).elim
end Go.Proofs.YtgcnbicoajjlaaaGreatDoor
end
section
set_option linter.unusedVariables false
set_option linter.unusedSimpArgs false
set_option maxRecDepth 100000
namespace Go.Proofs.YtgcnbicoajjlaaaGreatDoor
open Go Go.Eng Go.Tx Go.RowKit
variable {m : Int}
theorem globE {w : World} {st : Stab} (hg : GlobOk (GG m) w st) (i : Nat) (hi : GG m i = .rd [.ifS]) : ∃ t x, w.cell? ⟨i, 0, none⟩ = some (.iface t x) := by
  rcases hg i with h | h
  · rw [hi] at h; cases h
  · rw [hi] at h
    cases (show PV w st (.rd [.ifS]) _ from h) with
    | rd _ b o vals hc hs hp =>
      have h1 := hc 0 (by simp)
      have h2 := hp 0 (by simp)
      rw [Nat.zero_add] at h1
      rw [h1]
      generalize hx : vals 0 = x at h2
      cases (show PV w st .ifS x from h2)
      exact ⟨_, _, rfl⟩
noncomputable def Catoi : Con
  | [.str s] => .need (s.length ≤ 281474976710656) (.ask (atoiOk s) (.ret (.tup [.int .i64 (atoiN s), .nilI])) (.ret (.tup [.int .i64 (atoiN s), .ifS])))
  | _ => .fail
theorem ok82 : Ok m 82 Catoi := lib_ok Tryz.func82 (by kernel_rfl) fun xs r hr w st vals hsta hg ha => by
  unfold Catoi at hr
  split at hr
  · rename_i s
    obtain ⟨hs, hr⟩ := Tr.run_need hr
    obtain ⟨x, rfl, hx⟩ := a1 ha
    obtain rfl := a_str hx
    cases he : Lib.atoiAll s with
    | ok v =>
      have h1 : atoiOk s = true := by unfold atoiOk; rw [he]
      have h2 : atoiN s = v := by unfold atoiN; rw [he]
      rw [h1] at hr
      obtain rfl := Tr.run_ret (show (Tr.ret _).run = _ from hr)
      rw [h2]
      refine (Tryz.strconv_Atoi_ok ⟨s.toArray⟩ (by simp [ByteArray.size]; omega) v he w).mono fun e w' hq => ?_
      obtain ⟨rfl, hw⟩ := hq
      refine ⟨_, rfl, gone_val ?_ hsta (by simp) ⟨_, rfl, .cons (PV.int _ _) (.cons PV.nilI .nil)⟩⟩
      rcases hw with rfl | ⟨t, rfl⟩
      · exact ev_refl
      · exact ev_below (Lib.bytesWorld_below _ _ _)
    | range =>
      have h1 : atoiOk s = false := by unfold atoiOk; rw [he]
      have h2 : atoiN s = Lib.atoiSat s := by unfold atoiN; rw [he]
      rw [h1] at hr
      obtain rfl := Tr.run_ret (show (Tr.ret _).run = _ from hr)
      rw [h2]
      obtain ⟨t, x, hc⟩ := globE hg 6 rfl
      refine (Tryz.strconv_Atoi_range ⟨s.toArray⟩ (by simpa [ByteArray.size] using hs) he _ w hc (.inr ⟨t, x, rfl⟩)).mono fun e w' hq => ?_
      obtain ⟨N, rfl, _, _, hw⟩ := hq
      exact ⟨_, rfl, gone_val (ev_below hw) hsta (by simp) ⟨_, rfl, .cons (PV.int _ _) (.cons (PV.ifS _ _) .nil)⟩⟩
    | _ =>
      have h1 : atoiOk s = false := by unfold atoiOk; rw [he]
      have h2 : atoiN s = 0 := by unfold atoiN; rw [he]
      rw [h1] at hr
      obtain rfl := Tr.run_ret (show (Tr.ret _).run = _ from hr)
      rw [h2]
      obtain ⟨t, x, hc⟩ := globE hg 5 rfl
      refine (Tryz.strconv_Atoi_syntax ⟨s.toArray⟩ (by simpa [ByteArray.size] using hs) (he.trans rfl) _ w hc (.inr ⟨t, x, rfl⟩)).mono fun e w' hq => ?_
      obtain ⟨N, rfl, _, _, hw⟩ := hq
      exact ⟨_, rfl, gone_val (ev_below hw) hsta (by simp) ⟨_, rfl, .cons (PV.int _ _) (.cons (PV.ifS _ _) .nil)⟩⟩
  · exact (Tr.run_fail hr).elim
theorem r_sl {w : World} {st : Stab} {v : AV} {x : Value} {l : List Str} (he : eqv (slStrs l) v) (hp : pers v = true) (h : R2 w st noρ v x) : R3 w st noρ (slStrs l) x := by
  have hx : R3 w st noρ v x := (by cases v <;> first | exact h | exact h.elim)
  exact eqv_up rfl rfl he hx
noncomputable def Cjoin : Con
  | [v, .str sep] => .need (∃ l, eqv (slStrs l) v ∧ l.length ≤ 140737488355328 ∧ (Lib.join l sep).length ≤ 140737488355328) (.ret (.str (Lib.join (strs v) sep)))
  | _ => .fail
theorem ba_map (l : List Str) : (l.map fun s : Str => (⟨s.toArray⟩ : ByteArray)).map (·.data.toList) = l := by
  rw [List.map_map]
  conv => rhs; rw [← List.map_id l]
  exact List.map_congr_left fun _ _ => rfl
theorem ok18 : Ok m 18 Cjoin := by
  intro xs r hr0 hp
  refine lib_ok (C := fun ys => .need (ys = xs) (Cjoin ys)) Tryz.func18 (by kernel_rfl) (fun ys r hr w st vals hsta hg ha => ?_) xs r (by simp [Tr.run, hr0]) hp
  clear hr0
  obtain ⟨he, hr0⟩ := Tr.run_need hr
  clear hr
  subst he
  have hr := hr0
  clear hr0
  unfold Cjoin at hr
  split at hr
  · rename_i v sep
    obtain ⟨⟨l, hl, h1, h2⟩, hr⟩ := Tr.run_need hr
    obtain rfl := Tr.run_ret hr
    rw [strs_eqv hl]
    obtain ⟨x, y, rfl, hx, hy⟩ := a2 ha
    obtain rfl := a_str hy
    obtain ⟨a, c, b, o, vs, rfl, q1, q2, q3, q4, q5, q6, q7, q8⟩ := R3_sl (r_sl hl (by simp at hp; exact hp.1) hx)
    have hcell : ∀ i s, l[i]? = some s → w.cell? ⟨b, o + i, none⟩ = some (.string ⟨s.toArray⟩) := fun i s hs => by
      have hi : i < l.length := (List.getElem?_eq_some_iff.1 hs).1
      have h1 := q6 i 0 hi (by omega)
      have h2 := q8 i 0 hi (by omega)
      rw [Nat.mul_one, Nat.add_zero] at h1
      rw [h1]
      generalize vs i 0 = x at h2
      have h3 : PV w st (.str (l.getD i [])) x := h2
      rw [List.getD_eq_getElem?_getD, hs] at h3
      cases h3
      rfl
    cases l with
    | nil =>
      refine (Tryz.strings_Join_none a c ⟨sep.toArray⟩ w).mono fun e w' hq => ?_
      obtain ⟨rfl, rfl⟩ := hq
      exact ⟨_, rfl, gone_val ev_refl hsta (by simp) (PV.str _)⟩
    | cons s0 l0 =>
      obtain rfl := q4 (by simp)
      have := Tryz.strings_Join b o c ((s0 :: l0).map fun s : Str => (⟨s.toArray⟩ : ByteArray)) ⟨sep.toArray⟩ w (fun j x hj => by
        rw [List.getElem?_map] at hj
        obtain ⟨s, hs, rfl⟩ := Option.map_eq_some_iff.1 hj
        exact hcell j s hs) (World.block_lt_of_cell? _ _ (hcell 0 s0 rfl)) (by rw [List.length_map]; exact h1) (by rw [List.length_map]; exact q1) (by rw [ba_map]; exact h2)
      rw [ba_map, List.length_map] at this
      refine this.mono fun e w' hq => ?_
      obtain ⟨rfl, hw⟩ := hq
      exact ⟨_, rfl, gone_val (ev_below hw) hsta (by simp) (PV.str _)⟩
  · exact (Tr.run_fail hr).elim
noncomputable def Csplit : Con
  | [.str s, .str sep] => .need (s.length < 4294967281 ∧ 1 ≤ sep.length) (.ret (slStrs (Lib.split s sep)))
  | _ => .fail
theorem ok45 : Ok m 45 Csplit := lib_ok Tryz.func45 (by kernel_rfl) fun xs r hr w st vals hsta hg ha => by
  unfold Csplit at hr
  split at hr
  · rename_i s sep
    obtain ⟨⟨h1, h2⟩, hr⟩ := Tr.run_need hr
    obtain rfl := Tr.run_ret hr
    obtain ⟨x, y, rfl, hx, hy⟩ := a2 ha
    obtain rfl := a_str hx
    obtain rfl := a_str hy
    refine (Tryz.strings_Split ⟨s.toArray⟩ ⟨sep.toArray⟩ m w (by simpa [ByteArray.size] using h1) (glob3 hg) (by simpa [ByteArray.size] using h2)).mono fun e w' hq => ?_
    obtain ⟨rfl, rfl⟩ := hq
    generalize hB : Lib.splitB ⟨sep.toArray⟩ 0 (Lib.countB ⟨s.toArray⟩ ⟨sep.toArray⟩) ⟨s.toArray⟩ = B
    have hlen : B.length = Lib.countB ⟨s.toArray⟩ ⟨sep.toArray⟩ + 1 := by
      rw [← hB]
      exact Lib.splitB_all _ (by simpa [ByteArray.size] using h2) 0 _ _ rfl
    have hle : Lib.countB ⟨s.toArray⟩ ⟨sep.toArray⟩ ≤ s.length := by
      have := Lib.countB_le ⟨sep.toArray⟩ (by simpa [ByteArray.size] using h2) _ ⟨s.toArray⟩ (Nat.le_refl _)
      simpa [ByteArray.size] using this
    have hmap : B.map (·.data.toList) = Lib.split s sep := by
      rw [← hB, Lib.splitB_data]
      rfl
    rw [← hlen, ← hmap]
    have hcell : ∀ j, j < B.length → (w.alloc (.cells (B.map Value.string).toArray 9)).cell? ⟨w.heap.size, j, none⟩ = some (.string (B.getD j ByteArray.empty)) := fun j hj => by
      have hnew : (w.alloc (.cells (B.map Value.string).toArray 9)).heap[w.heap.size]? = some (.cells (B.map Value.string).toArray 9 (0, 0)) := heap_alloc_new w _
      unfold World.cell?
      dsimp only
      rw [hnew]
      simp [List.getD_eq_getElem?_getD, List.getElem?_eq_getElem hj]
    have hev : Ev (fun _ => False) w (w.alloc (.cells (B.map Value.string).toArray 9)) := ev_alloc _ w _
    refine ⟨_, rfl, fun b o => st b o ∨ (b = w.heap.size ∧ o < B.length), hev, fun _ _ h => .inl h, ?_, ?_, fun _ => ?_⟩
    · rintro b o hb (h | ⟨rfl, _⟩)
      · exact h
      · omega
    · rintro b o (h | ⟨rfl, h⟩)
      · exact Nat.lt_of_lt_of_le (hsta b o h) hev.size
      · exact World.block_lt_of_cell? _ _ (hcell o h)
    · refine (show PV _ _ (slStrs _) _ from ?_)
      have hl : (B.map (·.data.toList)).length = B.length := List.length_map ..
      unfold slStrs
      rw [hl]
      refine PV.sl false 1 B.length B.length _ (some ⟨w.heap.size, 0, none⟩) w.heap.size 0 (fun i _ => .string (B.getD i ByteArray.empty)) (Nat.le_refl _) (by simp) (by unfold maxLen; omega) (fun _ => rfl) (fun i hi => rfl) (fun i j hi hj => ?_) (fun i j hi hj => .inr ⟨rfl, by omega⟩) (fun i j hi hj => ?_)
      · obtain rfl : j = 0 := by omega
        rw [Nat.zero_add, Nat.mul_one, Nat.add_zero]
        exact hcell i hi
      · obtain rfl : j = 0 := by omega
        have e : (B.map (·.data.toList)).getD i [] = (B.getD i ByteArray.empty).data.toList := by
          simp [List.getD_eq_getElem?_getD, List.getElem?_eq_getElem hi]
        show PV _ _ (.str ((B.map (·.data.toList)).getD i [])) _
        rw [e]
        have := PV.str (w := w.alloc (.cells (B.map Value.string).toArray 9)) (st := fun b o => st b o ∨ (b = w.heap.size ∧ o < B.length)) (B.getD i ByteArray.empty).data.toList
        simpa using this
  · exact (Tr.run_fail hr).elim
end Go.Proofs.YtgcnbicoajjlaaaGreatDoor
end
section
set_option linter.unusedVariables false
set_option linter.unusedSimpArgs false
set_option maxRecDepth 100000
namespace Go.Proofs.YtgcnbicoajjlaaaGreatDoor
open Go Go.Eng Go.Tx
variable {m : Int}
theorem atoiAll_in {s : Str} {v : Int} (h : Lib.atoiAll s = .ok v) : -9223372036854775808 ≤ v ∧ v ≤ 9223372036854775807 := by
  unfold Lib.atoiAll at h
  split at h
  · cases h
  · dsimp only at h
    split at h
    · cases h
    · cases h
    · split at h
      · cases h
      · split at h
        · cases h
        · injection h with h
          subst h
          split <;> omega
theorem atoiN_in (s : Str) : -9223372036854775808 ≤ atoiN s ∧ atoiN s ≤ 9223372036854775807 := by
  unfold atoiN
  split
  · exact atoiAll_in ‹_›
  · unfold Lib.atoiSat
    split <;> omega
  · omega
theorem itoa_len {n : Int} (h0 : -9223372036854775808 ≤ n) (h1 : n ≤ 9223372036854775807) : (Lib.itoa n).length ≤ 20 := by
  unfold Lib.itoa
  split
  · have := decDigits_len (u := n.natAbs) (k := 19) (by have : (10:Nat) ^ 19 = 10000000000000000000 := by decide
                                                        omega) (by omega)
    simp only [List.length_cons]
    omega
  · have := decDigits_len (u := n.toNat) (k := 19) (by have : (10:Nat) ^ 19 = 10000000000000000000 := by decide
                                                       omega) (by omega)
    omega
noncomputable def Cnatural : Con
  | [.str s] => .need (s.length ≤ 281474976710656) (.ret (.tup [.int .i64 (atoiN s), .prop (natOk s)]))
  | _ => .fail
theorem ok46 : Ok m 46 Cnatural := fn_ok2 (cons_cons ok82 (cons_cons ok34 cons_nil)) Tryz.func46 (by kernel_rfl) fun xs r hr hp => by
  unfold Cnatural at hr
  split at hr
  · rename_i s
    obtain ⟨hl, hr⟩ := Tr.run_need hr
    obtain rfl := Tr.run_ret hr
    refine ⟨_, [], args_self _, of_nice (Ob (List.length s ≤ (281474976710656 : Nat)) ∧ (atoiOk s = true → Ob (decide ((↑(List.length s) : Int) ≤ (15 : Int)) = true → (-9223372036854775808 : Int) ≤ atoiN s ∧ atoiN s ≤
  (9223372036854775807 : Int)) ∧ atoiN s = atoiN s ∧ (bif bif decide ((↑(List.length s) : Int) ≤ (15 : Int)) then decide (Lib.itoa (atoiN s) = s) else false then decide ((0 :
  Int) ≤ atoiN s) else false) = natOk s) ∧ (atoiOk s = false → atoiN s = atoiN s ∧ false = natOk s)) (by kernel_rfl) ?_⟩
    simp only [Ob_iff, band_c]
    refine And.intro hl (And.intro (fun h => And.intro (fun _ => atoiN_in s) (And.intro trivial ?_)) (fun h => And.intro trivial ?_))
    · have : decide ((s.length : Int) ≤ 15) = decide (s.length ≤ 15) := decide_eq_decide.2 (by omega)
      rw [this]
      simp only [natOk, h, Bool.true_and]
    · simp only [natOk, h, Bool.false_and]
  · exact (Tr.run_fail hr).elim
def tyWr (t : Ty) : Prop := 0 ≤ t.k ∧ t.k ≤ 3 ∧ inI64 t.l ∧ inI64 t.s
noncomputable def CtypeText : Con
  | [v] => .need (v = aTy (tyOf v) ∧ tyWr (tyOf v)) (.ret (.str (typeText (tyOf v))))
  | _ => .fail
theorem word_len : ∀ i, i < 4 → (kindWords.getD i []).length ≤ 6 := by decide
theorem typeText_len {t : Ty} (h : tyWr t) : (typeText t).length ≤ 60 := by
  obtain ⟨h0, h3, hl, hs⟩ := h
  have w := word_len t.k.toNat (by omega)
  have l1 := itoa_len hl.1 hl.2
  have l2 := itoa_len hs.1 hs.2
  unfold typeText
  split <;> simp only [List.length_append, List.length_cons, List.length_nil] <;> omega
theorem ok32 : Ok m 32 CtypeText := fn_ok2 (cons_cons ok34 cons_nil) Tryz.func32 (by kernel_rfl) fun xs r hr hp => by
  unfold CtypeText at hr
  split at hr
  · rename_i v
    obtain ⟨⟨hv, h0, h3, hl, hs⟩, hr⟩ := Tr.run_need hr
    obtain rfl := Tr.run_ret hr
    generalize tyOf v = t at *
    subst hv
    clear hr hp
    refine ⟨_, [], args_self _, of_nice (Ob ((0 : Int) ≤ t.k ∧ t.k < (↑kindWords.length : Int)) ∧ Ob (List.length (kindWords.getD t.k.toNat []) + [(40 : UInt8)].length ≤ (9223372036854775807 : Nat)) ∧ Ob
  ((-9223372036854775808 : Int) ≤ t.l ∧ t.l ≤ (9223372036854775807 : Int)) ∧ Ob ((kindWords.getD t.k.toNat [] ++ [(40 : UInt8)]).length + (Lib.itoa t.l).length ≤
  (9223372036854775807 : Nat)) ∧ ((!decide (t.k = (0 : Int))) = true → Ob ((-9223372036854775808 : Int) ≤ t.s ∧ t.s ≤ (9223372036854775807 : Int)) ∧ Ob ([(44 : UInt8)].length +
  (Lib.itoa t.s).length ≤ (9223372036854775807 : Nat)) ∧ Ob ((kindWords.getD t.k.toNat [] ++ [(40 : UInt8)] ++ Lib.itoa t.l).length + ([(44 : UInt8)] ++ Lib.itoa t.s).length ≤
  (9223372036854775807 : Nat)) ∧ Ob ((kindWords.getD t.k.toNat [] ++ [(40 : UInt8)] ++ Lib.itoa t.l ++ ([(44 : UInt8)] ++ Lib.itoa t.s)).length + [(41 : UInt8)].length ≤
  (9223372036854775807 : Nat)) ∧ kindWords.getD t.k.toNat [] ++ [(40 : UInt8)] ++ Lib.itoa t.l ++ ([(44 : UInt8)] ++ Lib.itoa t.s) ++ [(41 : UInt8)] = typeText t) ∧ ((!decide
  (t.k = (0 : Int))) = false → Ob ((kindWords.getD t.k.toNat [] ++ [(40 : UInt8)] ++ Lib.itoa t.l).length + [(41 : UInt8)].length ≤ (9223372036854775807 : Nat)) ∧ kindWords.getD
  t.k.toNat [] ++ [(40 : UInt8)] ++ Lib.itoa t.l ++ [(41 : UInt8)] = typeText t)) (by kernel_rfl) ?_⟩
    have w := word_len t.k.toNat (by omega)
    have l1 := itoa_len hl.1 hl.2
    have l2 := itoa_len hs.1 hs.2
    have hk : (kindWords.length : Int) = 4 := rfl
    simp only [Ob_iff, List.length_append, List.length_cons, List.length_nil, Bool.not_eq_true', Bool.not_eq_false', decide_eq_true_eq, decide_eq_false_iff_not]
    refine And.intro (by omega) (And.intro (by omega) (And.intro hl (And.intro (by omega) (And.intro (fun hz => And.intro hs (And.intro (by omega) (And.intro (by omega) (And.intro (by omega) ?_)))) (fun hz => And.intro (by omega) ?_)))))
    · unfold typeText
      rw [if_neg hz]
    · unfold typeText
      rw [if_pos hz]
      simp
  · exact (Tr.run_fail hr).elim
noncomputable def digAt (s : Str) (i : Nat) : Bool := decide (i < s.length) && isDig (s.getD i 0)
noncomputable def CdigAt : Con
  | [.str s, .int .i64 i] => .need (0 ≤ i) (.ret (.prop (digAt s i.toNat)))
  | _ => .fail
theorem ok170 : Ok m 170 CdigAt := fn_ok2 cons_nil Tryz.func170 (by kernel_rfl) fun xs r hr hp => by
  unfold CdigAt at hr
  split at hr
  · rename_i s i
    obtain ⟨hi, hr⟩ := Tr.run_need hr
    obtain rfl := Tr.run_ret hr
    obtain ⟨k, rfl⟩ : ∃ k : Nat, i = k := ⟨i.toNat, by omega⟩
    refine ⟨_, [], args_self _, of_nice (Ob (decide ((↑k : Int) < (↑(List.length s) : Int)) = true → (0 : Int) ≤ (↑k : Int) ∧ (↑k : Int) < (↑(List.length s) : Int)) ∧ Ob ((bif decide ((↑k : Int) < (↑(List.length s) :
  Int)) then decide ((48 : Int) ≤ (↑(List.getD s k (0 : UInt8)).toNat : Int)) else false) = true → (0 : Int) ≤ (↑k : Int) ∧ (↑k : Int) < (↑(List.length s) : Int)) ∧ (bif bif
  decide ((↑k : Int) < (↑(List.length s) : Int)) then decide ((48 : Int) ≤ (↑(List.getD s k (0 : UInt8)).toNat : Int)) else false then decide ((↑(List.getD s k (0 : UInt8)).toNat
  : Int) ≤ (57 : Int)) else false) = digAt s k) (by kernel_rfl) ?_⟩
    simp only [Ob_iff, band_c, decide_eq_true_eq, Bool.and_eq_true]
    refine And.intro (fun h => by omega) (And.intro (fun h => by omega) ?_)
    unfold digAt isDig
    rw [Bool.eq_iff_iff]
    simp only [Bool.and_eq_true, decide_eq_true_eq]
    omega
  · exact (Tr.run_fail hr).elim
theorem takeWhile_next {p : UInt8 → Bool} : ∀ {l : Str} {j : Nat}, j ≤ (l.takeWhile p).length → ((decide (j < l.length) && p (l.getD j 0)) = true ↔ j < (l.takeWhile p).length)
  | [], j, h => by simp at h; subst h; simp
  | c :: l, 0, h => by
    simp only [List.length_cons, List.takeWhile_cons]
    cases hp : p c <;> simp [hp]
  | c :: l, j + 1, h => by
    simp only [List.takeWhile_cons] at h ⊢
    cases hp : p c with
    | false => rw [hp] at h; simp at h
    | true =>
      rw [hp] at h
      simp only [if_true, List.length_cons] at h ⊢
      have ih := takeWhile_next (p := p) (l := l) (j := j) (by omega)
      simp only [List.getD_cons_succ]
      rw [show decide (j + 1 < l.length + 1) = decide (j < l.length) from decide_eq_decide.2 (by omega), ih]
      omega
theorem digAt_run {s : Str} {i j : Nat} (h : j ≤ runOf s i) : digAt s (i + j) = true ↔ j < runOf s i := by
  unfold runOf at *
  rw [← takeWhile_next h]
  unfold digAt
  have e : (s.drop i).getD j 0 = s.getD (i + j) 0 := by simp [List.getD_eq_getElem?_getD, List.getElem?_drop]
  rw [e, List.length_drop]
  have : decide (i + j < s.length) = decide (j < s.length - i) := decide_eq_decide.2 (by omega)
  rw [this]
theorem runOf_le (s : Str) (i : Nat) : runOf s i ≤ s.length - i := by
  unfold runOf
  have := (List.takeWhile_sublist isDig (l := s.drop i)).length_le
  rw [List.length_drop] at this
  exact this
noncomputable def Crun : Con
  | [.str s, .int .i64 i] => .need (0 ≤ i ∧ i ≤ 100000 ∧ s.length ≤ 100000) (.ret (.tup [.int .i64 (i + (runOf s i.toNat : Nat)), .int .i64 (if runOf s i.toNat = 0 then (if i < s.length then 8 else 9) else 0)]))
  | _ => .fail
noncomputable def inv160 (s : Str) (i : Nat) : Eng.Inv :=
  ⟨{ j : Nat // j ≤ runOf s i }, fun j => [(0, .str s), (1, I (i + j.1 : Nat))], fun _ => [], fun j => runOf s i - j.1⟩
theorem ok160 : Ok m 160 Crun := fn_ok2 (cons_cons ok170 cons_nil) Tryz.func160 (by kernel_rfl) fun xs r hr hp => by
  unfold Crun at hr
  split at hr
  · rename_i s i
    obtain ⟨⟨hi, hi2, hs⟩, hr⟩ := Tr.run_need hr
    obtain rfl := Tr.run_ret hr
    obtain ⟨k, rfl⟩ : ∃ k : Nat, i = k := ⟨i.toNat, by omega⟩
    rw [Int.toNat_natCast]
    refine ⟨_, [(0, inv160 s k)], args_self _, of_nice (Ob ((0 : Int) ≤ (↑k : Int)) ∧ ((!digAt s k) = true → (decide ((↑k : Int) < (↑(List.length s) : Int)) = true → (↑k : Int) = (↑k : Int) + (↑(runOf s k) : Int) ∧ (8 : Int) = if
  runOf s k = (0 : Nat) then if (↑k : Int) < (↑(List.length s) : Int) then (8 : Int) else (9 : Int) else (0 : Int)) ∧ (decide ((↑k : Int) < (↑(List.length s) : Int)) = false →
  (↑k : Int) = (↑k : Int) + (↑(runOf s k) : Int) ∧ (9 : Int) = if runOf s k = (0 : Nat) then if (↑k : Int) < (↑(List.length s) : Int) then (8 : Int) else (9 : Int) else (0 :
  Int))) ∧ ((!digAt s k) = false → (∃ (j : { j : Nat // j ≤ runOf s k }), s = s ∧ (↑k : Int) = (↑(k + j.val) : Int) ∧ True) ∧ ∀ (i : { j : Nat // j ≤ runOf s k }), Ob ((0 : Int)
  ≤ (↑(k + i.val) : Int)) ∧ (digAt s (k + i.val) = true → Ob (inI64 ((↑(k + i.val) : Int) + (1 : Int))) ∧ ∃ (j : { j : Nat // j ≤ runOf s k }), (runOf s k - j.val).succ.le (runOf
  s k - i.val) ∧ s = s ∧ (↑(k + i.val) : Int) + (1 : Int) = (↑(k + j.val) : Int) ∧ True) ∧ (digAt s (k + i.val) = false → (↑(k + i.val) : Int) = (↑k : Int) + (↑(runOf s k) : Int)
  ∧ (0 : Int) = if runOf s k = (0 : Nat) then if (↑k : Int) < (↑(List.length s) : Int) then (8 : Int) else (9 : Int) else (0 : Int)))) (by kernel_rfl) ?_⟩
    have hle := runOf_le s k
    have h0 := digAt_run (s := s) (i := k) (j := 0) (Nat.zero_le _)
    rw [Nat.add_zero] at h0
    simp only [Ob_iff, inI64, Bool.not_eq_true', Bool.not_eq_false', decide_eq_true_eq, decide_eq_false_iff_not, true_and, and_true]
    refine And.intro (by omega) (And.intro (fun h => ?_) (fun h => ?_))
    · have hz : runOf s k = 0 := by
        rcases Nat.eq_zero_or_pos (runOf s k) with h1 | h1
        · exact h1
        · rw [h0.2 h1] at h; cases h
      rw [hz]
      refine And.intro (fun h1 => ?_) (fun h1 => ?_)
      · rw [if_pos rfl, if_pos h1]; exact ⟨by omega, rfl⟩
      · rw [if_pos rfl, if_neg h1]; exact ⟨by omega, rfl⟩
    · have hz := h0.1 h
      refine And.intro ⟨⟨0, by omega⟩, by simp⟩ ?_
      rintro ⟨j, hj⟩
      dsimp only
      have hd := digAt_run (s := s) (i := k) hj
      refine And.intro (by omega) (And.intro (fun h1 => ?_) (fun h1 => ?_))
      · have h2 := hd.1 h1
        exact ⟨by omega, ⟨j + 1, h2⟩, sub_step h2, by dsimp only; omega⟩
      · have h2 : j = runOf s k := by
          rcases Nat.lt_or_ge j (runOf s k) with h3 | h3
          · rw [hd.2 h3] at h1; cases h1
          · omega
        subst h2
        rw [if_neg (by omega)]
        exact ⟨by omega, rfl⟩
  · exact (Tr.run_fail hr).elim
noncomputable def CcheckNumber : Con
  | [.agg [.int .i64 n, .int .i64 s]] => .ret (.int .i64 (if numberOk n s = true then 0 else 3))
  | _ => .fail
theorem ok100 : Ok m 100 CcheckNumber := fn_ok2 (cons_cons ok123 (cons_cons ok125 cons_nil)) Tryz.func100 (by kernel_rfl) fun xs r hr hp => by
  unfold CcheckNumber at hr
  split at hr
  · rename_i n s
    obtain rfl := Tr.run_ret hr
    refine ⟨_, [], args_self _, of_nice ((bif !(decide ((-999999999999999 : Int) ≤ n) && decide (n ≤ (999999999999999 : Int))) || !(decide ((0 : Int) ≤ s) && decide (s ≤ (15 : Int))) then (3 : Int) else (0 : Int)) = if
  numberOk n s = true then (0 : Int) else (3 : Int)) (by kernel_rfl) ?_⟩
    simp only [numberOk, decide_eq_true_eq, bor_c, band_c]
    by_cases h1 : -999999999999999 ≤ n <;> by_cases h2 : n ≤ 999999999999999 <;> by_cases h3 : 0 ≤ s <;> by_cases h4 : s ≤ 15 <;> simp [h1, h2, h3, h4]
  · exact (Tr.run_fail hr).elim
end Go.Proofs.YtgcnbicoajjlaaaGreatDoor
end
section
set_option linter.unusedVariables false
set_option linter.unusedSimpArgs false
set_option maxRecDepth 100000
namespace Go.Proofs.YtgcnbicoajjlaaaGreatDoor
open Go Go.Eng Go.Tx
variable {m : Int}
noncomputable def layE (len a r c d q : Nat) : Int :=
  if r = 0 then (if a < len then 8 else 9) else if c = 48 ∧ a + 1 < a + r then 8 else if a + r = len then 0 else if d ≠ 46 then 8 else if q = 0 then (if a + r + 1 < len then 8 else 9) else if a + r + 1 + q < len then 8 else 0
noncomputable def layErr (s : Str) : Int :=
  layE s.length (minus s) (runOf s (minus s)) (s.getD (minus s) 0).toNat (s.getD (minus s + runOf s (minus s)) 0).toNat (runOf s (minus s + runOf s (minus s) + 1))
noncomputable def ClayoutN : Con
  | [.str s] => .need (1 ≤ s.length ∧ s.length ≤ 10000) (.ret (.tup [.int .i64 (if layErr s = 0 then (minus s : Nat) else 0), .any, .int .i64 (layErr s)]))
  | _ => .fail
theorem minus_one {s : Str} (h1 : 1 ≤ s.length) (h : ((s.getD 0 0).toNat : Int) = 45) : minus s = 1 := by
  cases s with
  | nil => simp at h1
  | cons c r =>
    simp only [List.getD_cons_zero] at h
    have : c = 45 := UInt8.toNat_inj.1 (by simp only [UInt8.toNat_ofNat]; omega)
    simp [minus, this]
theorem minus_zero {s : Str} (h : ¬ ((s.getD 0 0).toNat : Int) = 45) : minus s = 0 := by
  cases s with
  | nil => rfl
  | cons c r =>
    simp only [List.getD_cons_zero] at h
    have : c ≠ 45 := fun e => h (by rw [e]; rfl)
    simp [minus, this]
def LayP (n r0 r1 q0 q1 M : Nat) (c b d0 d1 : UInt8) (L : Int) : Prop :=
  (Ob ((0 : Int) ≤ (0 : Int) ∧ (0 : Int) < (↑(n) : Int)) ∧ (decide ((↑(c).toNat : Int) = (45 : Int)) = true → Ob ((0 : Int) ≤ (1 : Int) ∧ (1 : Int) ≤ (100000 : Int) ∧ n ≤ (100000 :
  Nat)) ∧ ((!decide ((if r1 = (0 : Nat) then if (1 : Int) < (↑(n) : Int) then (8 : Int) else (9 : Int) else (0 : Int)) = (0 : Int))) = true → ((0 : Int) = if L = (0 : Int) then
  (↑(M) : Int) else (0 : Int)) ∧ True ∧ (if r1 = (0 : Nat) then if (1 : Int) < (↑(n) : Int) then (8 : Int) else (9 : Int) else (0 : Int)) = L) ∧ ((!decide ((if r1 = (0 : Nat) then
  if (1 : Int) < (↑(n) : Int) then (8 : Int) else (9 : Int) else (0 : Int)) = (0 : Int))) = false → Ob ((0 : Int) ≤ (1 : Int) ∧ (1 : Int) < (↑(n) : Int)) ∧ Ob (decide ((↑(b).toNat
  : Int) = (48 : Int)) = true → inI64 ((1 : Int) + (1 : Int))) ∧ ((bif decide ((↑(b).toNat : Int) = (48 : Int)) then decide ((1 : Int) + (1 : Int) < (1 : Int) + (↑(r1) : Int)) else
  false) = true → Ob (inI64 ((1 : Int) + (1 : Int))) ∧ ((0 : Int) = if L = (0 : Int) then (↑(M) : Int) else (0 : Int)) ∧ True ∧ (8 : Int) = L) ∧ ((bif decide ((↑(b).toNat : Int) =
  (48 : Int)) then decide ((1 : Int) + (1 : Int) < (1 : Int) + (↑(r1) : Int)) else false) = false → (decide ((1 : Int) + (↑(r1) : Int) = (↑(n) : Int)) = true → ((1 : Int) = if L =
  (0 : Int) then (↑(M) : Int) else (0 : Int)) ∧ True ∧ (0 : Int) = L) ∧ (decide ((1 : Int) + (↑(r1) : Int) = (↑(n) : Int)) = false → Ob ((0 : Int) ≤ (1 : Int) + (↑(r1) : Int) ∧ (1
  : Int) + (↑(r1) : Int) < (↑(n) : Int)) ∧ ((!decide ((↑(d1).toNat : Int) = (46 : Int))) = true → ((0 : Int) = if L = (0 : Int) then (↑(M) : Int) else (0 : Int)) ∧ True ∧ (8 : Int)
  = L) ∧ ((!decide ((↑(d1).toNat : Int) = (46 : Int))) = false → Ob (inI64 ((1 : Int) + (↑(r1) : Int) + (1 : Int))) ∧ Ob ((0 : Int) ≤ (1 : Int) + (↑(r1) : Int) + (1 : Int) ∧ (1 :
  Int) + (↑(r1) : Int) + (1 : Int) ≤ (100000 : Int) ∧ n ≤ (100000 : Nat)) ∧ ((bif decide ((if q1 = (0 : Nat) then if (1 : Int) + (↑(r1) : Int) + (1 : Int) < (↑(n) : Int) then (8 :
  Int) else (9 : Int) else (0 : Int)) = (0 : Int)) then decide ((1 : Int) + (↑(r1) : Int) + (1 : Int) + (↑(q1) : Int) < (↑(n) : Int)) else false) = true → ((!decide ((8 : Int) = (0
  : Int))) = true → ((0 : Int) = if L = (0 : Int) then (↑(M) : Int) else (0 : Int)) ∧ True ∧ (8 : Int) = L) ∧ ((!decide ((8 : Int) = (0 : Int))) = false → ((1 : Int) = if L = (0 :
  Int) then (↑(M) : Int) else (0 : Int)) ∧ True ∧ (0 : Int) = L)) ∧ ((bif decide ((if q1 = (0 : Nat) then if (1 : Int) + (↑(r1) : Int) + (1 : Int) < (↑(n) : Int) then (8 : Int)
  else (9 : Int) else (0 : Int)) = (0 : Int)) then decide ((1 : Int) + (↑(r1) : Int) + (1 : Int) + (↑(q1) : Int) < (↑(n) : Int)) else false) = false → ((!decide ((if q1 = (0 : Nat)
  then if (1 : Int) + (↑(r1) : Int) + (1 : Int) < (↑(n) : Int) then (8 : Int) else (9 : Int) else (0 : Int)) = (0 : Int))) = true → ((0 : Int) = if L = (0 : Int) then (↑(M) : Int)
  else (0 : Int)) ∧ True ∧ (if q1 = (0 : Nat) then if (1 : Int) + (↑(r1) : Int) + (1 : Int) < (↑(n) : Int) then (8 : Int) else (9 : Int) else (0 : Int)) = L) ∧ ((!decide ((if q1 =
  (0 : Nat) then if (1 : Int) + (↑(r1) : Int) + (1 : Int) < (↑(n) : Int) then (8 : Int) else (9 : Int) else (0 : Int)) = (0 : Int))) = false → ((1 : Int) = if L = (0 : Int) then
  (↑(M) : Int) else (0 : Int)) ∧ True ∧ (0 : Int) = L))))))) ∧ (decide ((↑(c).toNat : Int) = (45 : Int)) = false → Ob ((0 : Int) ≤ (0 : Int) ∧ (0 : Int) ≤ (100000 : Int) ∧ n ≤
  (100000 : Nat)) ∧ ((!decide ((if r0 = (0 : Nat) then if (0 : Int) < (↑(n) : Int) then (8 : Int) else (9 : Int) else (0 : Int)) = (0 : Int))) = true → ((0 : Int) = if L = (0 :
  Int) then (↑(M) : Int) else (0 : Int)) ∧ True ∧ (if r0 = (0 : Nat) then if (0 : Int) < (↑(n) : Int) then (8 : Int) else (9 : Int) else (0 : Int)) = L) ∧ ((!decide ((if r0 = (0 :
  Nat) then if (0 : Int) < (↑(n) : Int) then (8 : Int) else (9 : Int) else (0 : Int)) = (0 : Int))) = false → Ob ((0 : Int) ≤ (0 : Int) ∧ (0 : Int) < (↑(n) : Int)) ∧ Ob (decide
  ((↑(c).toNat : Int) = (48 : Int)) = true → inI64 ((0 : Int) + (1 : Int))) ∧ ((bif decide ((↑(c).toNat : Int) = (48 : Int)) then decide ((0 : Int) + (1 : Int) < (0 : Int) + (↑(r0)
  : Int)) else false) = true → Ob (inI64 ((0 : Int) + (1 : Int))) ∧ ((0 : Int) = if L = (0 : Int) then (↑(M) : Int) else (0 : Int)) ∧ True ∧ (8 : Int) = L) ∧ ((bif decide
  ((↑(c).toNat : Int) = (48 : Int)) then decide ((0 : Int) + (1 : Int) < (0 : Int) + (↑(r0) : Int)) else false) = false → (decide ((0 : Int) + (↑(r0) : Int) = (↑(n) : Int)) = true
  → ((0 : Int) = if L = (0 : Int) then (↑(M) : Int) else (0 : Int)) ∧ True ∧ (0 : Int) = L) ∧ (decide ((0 : Int) + (↑(r0) : Int) = (↑(n) : Int)) = false → Ob ((0 : Int) ≤ (0 : Int)
  + (↑(r0) : Int) ∧ (0 : Int) + (↑(r0) : Int) < (↑(n) : Int)) ∧ ((!decide ((↑(d0).toNat : Int) = (46 : Int))) = true → ((0 : Int) = if L = (0 : Int) then (↑(M) : Int) else (0 :
  Int)) ∧ True ∧ (8 : Int) = L) ∧ ((!decide ((↑(d0).toNat : Int) = (46 : Int))) = false → Ob (inI64 ((0 : Int) + (↑(r0) : Int) + (1 : Int))) ∧ Ob ((0 : Int) ≤ (0 : Int) + (↑(r0) :
  Int) + (1 : Int) ∧ (0 : Int) + (↑(r0) : Int) + (1 : Int) ≤ (100000 : Int) ∧ n ≤ (100000 : Nat)) ∧ ((bif decide ((if q0 = (0 : Nat) then if (0 : Int) + (↑(r0) : Int) + (1 : Int) <
  (↑(n) : Int) then (8 : Int) else (9 : Int) else (0 : Int)) = (0 : Int)) then decide ((0 : Int) + (↑(r0) : Int) + (1 : Int) + (↑(q0) : Int) < (↑(n) : Int)) else false) = true →
  ((!decide ((8 : Int) = (0 : Int))) = true → ((0 : Int) = if L = (0 : Int) then (↑(M) : Int) else (0 : Int)) ∧ True ∧ (8 : Int) = L) ∧ ((!decide ((8 : Int) = (0 : Int))) = false →
  ((0 : Int) = if L = (0 : Int) then (↑(M) : Int) else (0 : Int)) ∧ True ∧ (0 : Int) = L)) ∧ ((bif decide ((if q0 = (0 : Nat) then if (0 : Int) + (↑(r0) : Int) + (1 : Int) < (↑(n)
  : Int) then (8 : Int) else (9 : Int) else (0 : Int)) = (0 : Int)) then decide ((0 : Int) + (↑(r0) : Int) + (1 : Int) + (↑(q0) : Int) < (↑(n) : Int)) else false) = false →
  ((!decide ((if q0 = (0 : Nat) then if (0 : Int) + (↑(r0) : Int) + (1 : Int) < (↑(n) : Int) then (8 : Int) else (9 : Int) else (0 : Int)) = (0 : Int))) = true → ((0 : Int) = if L
  = (0 : Int) then (↑(M) : Int) else (0 : Int)) ∧ True ∧ (if q0 = (0 : Nat) then if (0 : Int) + (↑(r0) : Int) + (1 : Int) < (↑(n) : Int) then (8 : Int) else (9 : Int) else (0 :
  Int)) = L) ∧ ((!decide ((if q0 = (0 : Nat) then if (0 : Int) + (↑(r0) : Int) + (1 : Int) < (↑(n) : Int) then (8 : Int) else (9 : Int) else (0 : Int)) = (0 : Int))) = false → ((0
  : Int) = if L = (0 : Int) then (↑(M) : Int) else (0 : Int)) ∧ True ∧ (0 : Int) = L))))))))
set_option maxHeartbeats 4000000 in
theorem lay_key {n r0 r1 q0 q1 M : Nat} {c b d0 d1 : UInt8} {L : Int} (h1 : 1 ≤ n) (h2 : n ≤ 10000) (hr0 : r0 ≤ n - 0) (hr1 : r1 ≤ n - 1) (hq0 : q0 ≤ n - (0 + r0 + 1)) (hq1 : q1 ≤ n - (1 + r1 + 1))
    (hy : (c.toNat : Int) = 45 → M = 1 ∧ L = layE n 1 r1 b.toNat d1.toNat q1) (hn : ¬ (c.toNat : Int) = 45 → M = 0 ∧ L = layE n 0 r0 c.toNat d0.toNat q0) : LayP n r0 r1 q0 q1 M c b d0 d1 L := by
  unfold LayP
  simp only [Ob_iff]
  simp only [inI64]
  simp only [band_c]
  simp only [true_and]
  simp only [Bool.not_eq_true', Bool.not_eq_false']
  simp only [decide_eq_true_eq, decide_eq_false_iff_not, Bool.and_eq_true, Bool.and_eq_false_iff]
  refine And.intro (by omega) (And.intro (fun h => ?_) (fun h => ?_))
  · obtain ⟨rfl, rfl⟩ := hy h
    clear hy hn
    unfold layE
    generalize b.toNat = b' at *
    generalize d1.toNat = d' at *
    repeat' first | refine And.intro ?_ ?_ | intro h
    all_goals (try (repeat' split at *)) <;> omega
  · obtain ⟨rfl, rfl⟩ := hn h
    clear hy hn
    unfold layE
    generalize c.toNat = b' at *
    generalize d0.toNat = d' at *
    repeat' first | refine And.intro ?_ ?_ | intro h
    all_goals (try (repeat' split at *)) <;> omega
theorem ok140 : Ok m 140 ClayoutN := fn_ok2 (cons_cons ok160 cons_nil) Tryz.func140 (by kernel_rfl) fun xs r hr hp => by
  unfold ClayoutN at hr
  split at hr
  · rename_i s
    obtain ⟨⟨h1, h2⟩, hr⟩ := Tr.run_need hr
    obtain rfl := Tr.run_ret hr
    clear hr hp
    refine ⟨_, [], args_self _, of_nice (LayP s.length (runOf s 0) (runOf s 1) (runOf s (0 + runOf s 0 + 1)) (runOf s (1 + runOf s 1 + 1)) (minus s) (s.getD 0 0) (s.getD 1 0) (s.getD (0 + runOf s 0) 0) (s.getD (1 + runOf s 1) 0) (layErr s)) (by kernel_rfl) ?_⟩
    refine lay_key h1 h2 (runOf_le s 0) (runOf_le s 1) (runOf_le s _) (runOf_le s _) (fun h => ?_) (fun h => ?_)
    · have hm := minus_one h1 h
      unfold layErr
      rw [hm]
      exact ⟨rfl, rfl⟩
    · have hm := minus_zero h
      unfold layErr
      rw [hm]
      exact ⟨rfl, rfl⟩
  · exact (Tr.run_fail hr).elim
end Go.Proofs.YtgcnbicoajjlaaaGreatDoor
end
section
set_option linter.unusedVariables false
set_option linter.unusedSimpArgs false
set_option maxRecDepth 100000
namespace Go.Proofs.YtgcnbicoajjlaaaGreatDoor
open Go Go.Eng Go.Tx
variable {m : Int}
noncomputable def CformatNumber : Con
  | [.agg [.int .i64 n, .int .i64 s]] => .need (numberOk n s = true) (.ret (.tup [.str (numText n s), .int .i64 0]))
  | _ => .fail
def FmtP (n : Int) (k : Nat) (d z X : Str) (O : Bool) : Prop :=
  (((!decide ((if O = true then (0 : Int) else (3 : Int)) = (0 : Int))) = true → [] = X ∧ (if O = true then (0 : Int) else (3 : Int)) = (0 : Int)) ∧ ((!decide ((if O = true then (0 :
  Int) else (3 : Int)) = (0 : Int))) = false → Ob (inI64 ((0 : Int) - n)) ∧ Ob ((-9223372036854775808 : Int) ≤ max n ((0 : Int) - n) ∧ max n ((0 : Int) - n) ≤ (9223372036854775807
  : Int)) ∧ (decide ((↑d.length : Int) ≤ (↑k : Int)) = true → Ob (inI64 ((↑k : Int) + (1 : Int))) ∧ Ob (inI64 ((↑k : Int) + (1 : Int) - (↑d.length : Int))) ∧ Ob ((0 : Int) ≤ (↑k :
  Int) + (1 : Int) - (↑d.length : Int) ∧ (↑k : Int) + (1 : Int) - (↑d.length : Int) ≤ (9223372036854775807 : Int) ∧ [(48 : UInt8)].length * ((↑k : Int) + (1 : Int) - (↑d.length :
  Int)).toNat ≤ (140737488355328 : Nat)) ∧ Ob (z.length + d.length ≤ (9223372036854775807 : Nat)) ∧ (decide ((0 : Int) < (↑k : Int)) = true → Ob (inI64 ((↑(z ++ d).length : Int) -
  (↑k : Int))) ∧ Ob ((0 : Int) ≤ (↑(z ++ d).length : Int) - (↑k : Int) ∧ (↑(z ++ d).length : Int) - (↑k : Int) ≤ (↑(z ++ d).length : Int)) ∧ Ob ((List.take (((↑(z ++ d).length :
  Int) - (↑k : Int)).toNat - (0 : Nat)) (List.drop (0 : Nat) (z ++ d))).length + [(46 : UInt8)].length ≤ (9223372036854775807 : Nat)) ∧ Ob (inI64 ((↑(z ++ d).length : Int) - (↑k :
  Int))) ∧ Ob ((0 : Int) ≤ (↑(z ++ d).length : Int) - (↑k : Int) ∧ (↑(z ++ d).length : Int) - (↑k : Int) ≤ (↑(z ++ d).length : Int)) ∧ Ob ((List.take (((↑(z ++ d).length : Int) -
  (↑k : Int)).toNat - (0 : Nat)) (List.drop (0 : Nat) (z ++ d)) ++ [(46 : UInt8)]).length + (List.take ((z ++ d).length - ((↑(z ++ d).length : Int) - (↑k : Int)).toNat) (List.drop
  ((↑(z ++ d).length : Int) - (↑k : Int)).toNat (z ++ d))).length ≤ (9223372036854775807 : Nat)) ∧ (decide (n < (0 : Int)) = true → Ob ([(45 : UInt8)].length + (List.take (((↑(z ++
  d).length : Int) - (↑k : Int)).toNat - (0 : Nat)) (List.drop (0 : Nat) (z ++ d)) ++ [(46 : UInt8)] ++ List.take ((z ++ d).length - ((↑(z ++ d).length : Int) - (↑k : Int)).toNat)
  (List.drop ((↑(z ++ d).length : Int) - (↑k : Int)).toNat (z ++ d))).length ≤ (9223372036854775807 : Nat)) ∧ [(45 : UInt8)] ++ (List.take (((↑(z ++ d).length : Int) - (↑k :
  Int)).toNat - (0 : Nat)) (List.drop (0 : Nat) (z ++ d)) ++ [(46 : UInt8)] ++ List.take ((z ++ d).length - ((↑(z ++ d).length : Int) - (↑k : Int)).toNat) (List.drop ((↑(z ++
  d).length : Int) - (↑k : Int)).toNat (z ++ d))) = X ∧ (0 : Int) = (0 : Int)) ∧ (decide (n < (0 : Int)) = false → List.take (((↑(z ++ d).length : Int) - (↑k : Int)).toNat - (0 :
  Nat)) (List.drop (0 : Nat) (z ++ d)) ++ [(46 : UInt8)] ++ List.take ((z ++ d).length - ((↑(z ++ d).length : Int) - (↑k : Int)).toNat) (List.drop ((↑(z ++ d).length : Int) - (↑k :
  Int)).toNat (z ++ d)) = X ∧ (0 : Int) = (0 : Int))) ∧ (decide ((0 : Int) < (↑k : Int)) = false → (decide (n < (0 : Int)) = true → Ob ([(45 : UInt8)].length + (z ++ d).length ≤
  (9223372036854775807 : Nat)) ∧ [(45 : UInt8)] ++ (z ++ d) = X ∧ (0 : Int) = (0 : Int)) ∧ (decide (n < (0 : Int)) = false → z ++ d = X ∧ (0 : Int) = (0 : Int)))) ∧ (decide
  ((↑d.length : Int) ≤ (↑k : Int)) = false → (decide ((0 : Int) < (↑k : Int)) = true → Ob (inI64 ((↑d.length : Int) - (↑k : Int))) ∧ Ob ((0 : Int) ≤ (↑d.length : Int) - (↑k : Int)
  ∧ (↑d.length : Int) - (↑k : Int) ≤ (↑d.length : Int)) ∧ Ob ((List.take (((↑d.length : Int) - (↑k : Int)).toNat - (0 : Nat)) (List.drop (0 : Nat) (d))).length + [(46 :
  UInt8)].length ≤ (9223372036854775807 : Nat)) ∧ Ob (inI64 ((↑d.length : Int) - (↑k : Int))) ∧ Ob ((0 : Int) ≤ (↑d.length : Int) - (↑k : Int) ∧ (↑d.length : Int) - (↑k : Int) ≤
  (↑d.length : Int)) ∧ Ob ((List.take (((↑d.length : Int) - (↑k : Int)).toNat - (0 : Nat)) (List.drop (0 : Nat) (d)) ++ [(46 : UInt8)]).length + (List.take (d.length - ((↑d.length
  : Int) - (↑k : Int)).toNat) (List.drop ((↑d.length : Int) - (↑k : Int)).toNat (d))).length ≤ (9223372036854775807 : Nat)) ∧ (decide (n < (0 : Int)) = true → Ob ([(45 :
  UInt8)].length + (List.take (((↑d.length : Int) - (↑k : Int)).toNat - (0 : Nat)) (List.drop (0 : Nat) (d)) ++ [(46 : UInt8)] ++ List.take (d.length - ((↑d.length : Int) - (↑k :
  Int)).toNat) (List.drop ((↑d.length : Int) - (↑k : Int)).toNat (d))).length ≤ (9223372036854775807 : Nat)) ∧ [(45 : UInt8)] ++ (List.take (((↑d.length : Int) - (↑k : Int)).toNat
  - (0 : Nat)) (List.drop (0 : Nat) (d)) ++ [(46 : UInt8)] ++ List.take (d.length - ((↑d.length : Int) - (↑k : Int)).toNat) (List.drop ((↑d.length : Int) - (↑k : Int)).toNat (d)))
  = X ∧ (0 : Int) = (0 : Int)) ∧ (decide (n < (0 : Int)) = false → List.take (((↑d.length : Int) - (↑k : Int)).toNat - (0 : Nat)) (List.drop (0 : Nat) (d)) ++ [(46 : UInt8)] ++
  List.take (d.length - ((↑d.length : Int) - (↑k : Int)).toNat) (List.drop ((↑d.length : Int) - (↑k : Int)).toNat (d)) = X ∧ (0 : Int) = (0 : Int))) ∧ (decide ((0 : Int) < (↑k :
  Int)) = false → (decide (n < (0 : Int)) = true → Ob ([(45 : UInt8)].length + d.length ≤ (9223372036854775807 : Nat)) ∧ [(45 : UInt8)] ++ d = X ∧ (0 : Int) = (0 : Int)) ∧ (decide
  (n < (0 : Int)) = false → d = X ∧ (0 : Int) = (0 : Int))))))
theorem slAB (p : Str) (k : Nat) : List.take (((p.length : Int) - (k : Int)).toNat - 0) (List.drop 0 p) ++ [46] ++ List.take (p.length - ((p.length : Int) - (k : Int)).toNat) (List.drop ((p.length : Int) - (k : Int)).toNat p) = p.take (p.length - k) ++ [46] ++ p.drop (p.length - k) := by
  have e : ((p.length : Int) - (k : Int)).toNat = p.length - k := by omega
  rw [e, Nat.sub_zero, List.drop_zero, List.take_of_length_le (l := List.drop (p.length - k) p) (by simp)]
theorem fmt_key {n : Int} {k : Nat} {d z X : Str} (hn : -999999999999999 ≤ n ∧ n ≤ 999999999999999) (hk : k ≤ 15) (hd : d.length ≤ 20) (hz : d.length ≤ k → z = List.replicate (k + 1 - d.length) 48)
    (hX : X = (if n < 0 then [45] else []) ++ pointed (padded d k) k) : FmtP n k d z X true := by
  unfold FmtP
  simp only [Ob_iff]
  simp only [inI64]
  simp only [decide_eq_true_eq, decide_eq_false_iff_not, Bool.not_eq_true', Bool.not_eq_false', if_true]
  simp only [ne_eq, not_true_eq_false, false_implies, true_implies, true_and, and_true]
  simp only [slAB]
  simp only [List.length_append, List.length_take, List.length_drop, List.length_cons, List.length_nil]
  refine ⟨by omega, by omega, fun h => ?_, fun h => ?_⟩
  · have hz' := hz (by omega)
    have hzl : z.length = k + 1 - d.length := by rw [hz']; simp
    have hp : padded d k = z ++ d := by unfold padded; rw [if_pos (by omega), hz']
    rw [hp] at hX
    refine ⟨by omega, by omega, by omega, by omega, fun h1 => ?_, fun h1 => ?_⟩
    · have e : pointed (z ++ d) k = (z ++ d).take ((z ++ d).length - k) ++ [46] ++ (z ++ d).drop ((z ++ d).length - k) := by unfold pointed; rw [if_neg (by omega)]
      rw [e] at hX
      refine ⟨by omega, by omega, by omega, by omega, by omega, by omega, fun h2 => ?_, fun h2 => ?_⟩
      · rw [if_pos h2] at hX
        exact ⟨by omega, by rw [hX]; simp⟩
      · rw [if_neg h2] at hX
        rw [hX]; simp
    · have e : pointed (z ++ d) k = z ++ d := by unfold pointed; rw [if_pos (by omega)]
      rw [e] at hX
      refine ⟨fun h2 => ?_, fun h2 => ?_⟩
      · rw [if_pos h2] at hX
        exact ⟨by omega, by rw [hX]⟩
      · rw [if_neg h2] at hX
        rw [hX]; simp
  · have hp : padded d k = d := by unfold padded; rw [if_neg (by omega)]
    rw [hp] at hX
    refine ⟨fun h1 => ?_, fun h1 => ?_⟩
    · have e : pointed d k = d.take (d.length - k) ++ [46] ++ d.drop (d.length - k) := by unfold pointed; rw [if_neg (by omega)]
      rw [e] at hX
      refine ⟨by omega, by omega, by omega, by omega, by omega, by omega, fun h2 => ?_, fun h2 => ?_⟩
      · rw [if_pos h2] at hX
        exact ⟨by omega, by rw [hX]⟩
      · rw [if_neg h2] at hX
        rw [hX]; simp
    · have e : pointed d k = d := by unfold pointed; rw [if_pos (by omega)]
      rw [e] at hX
      refine ⟨fun h2 => ?_, fun h2 => ?_⟩
      · rw [if_pos h2] at hX
        exact ⟨by omega, by rw [hX]⟩
      · rw [if_neg h2] at hX
        rw [hX]; simp
theorem repeat_one (k : Nat) (c : UInt8) : Lib.repeatL [c] k = List.replicate k c := by
  induction k with
  | zero => rfl
  | succ k ih => simp [Lib.repeatL, ih, List.replicate_succ]
theorem ok67 : Ok m 67 CformatNumber := fn_ok2 (cons_cons ok100 (cons_cons ok34 (cons_cons ok101 cons_nil))) Tryz.func67 (by kernel_rfl) fun xs r hr hp => by
  unfold CformatNumber at hr
  split at hr
  · rename_i n s
    obtain ⟨hn, hr⟩ := Tr.run_need hr
    obtain rfl := Tr.run_ret hr
    clear hr hp
    have hn' := hn
    simp only [numberOk, decide_eq_true_eq] at hn'
    obtain ⟨k, rfl⟩ : ∃ k : Nat, s = k := ⟨s.toNat, by omega⟩
    refine ⟨_, [], args_self _, of_nice (FmtP n k (Lib.itoa (max n (0 - n))) (Lib.repeatL [48] ((k : Int) + 1 - ((Lib.itoa (max n (0 - n))).length : Int)).toNat) (numText n k) (numberOk n k)) (by kernel_rfl) ?_⟩
    rw [hn]
    refine fmt_key (by omega) (by omega) (itoa_len (by omega) (by omega)) (fun h => ?_) ?_
    · rw [repeat_one]
      congr 1
      omega
    · unfold numText
      rw [if_pos hn, Int.toNat_natCast, show 0 - n = -n by omega]
  · exact (Tr.run_fail hr).elim
end Go.Proofs.YtgcnbicoajjlaaaGreatDoor
end
